/-
  Aq10, Aq11, Aq12, Aq13, Aq14, Aq15, Aq16, Rb4, Rb4b, Rb5, Rb6, Rb7, Rb8, Rb9, Rb10, Rb11: merged.
-/
import Derived.Test.YtnhabkipjmgaaaaGreatZRibVoid5
namespace Go.Proofs.YtnhabkipjmgaaaaGreat
set_option linter.unusedSimpArgs false
set_option linter.unusedVariables false
set_option maxRecDepth 20000
set_option maxHeartbeats 4000000
open Go.RowKit Go.Pm

abbrev Tl := Int × Int × List Int
def tlB (t : Tl) : List Int := putB t.1 t.2.1 t.2.2
def tlsB (l : List Tl) : List Int := l.flatMap tlB
theorem tlsB_append (l m : List Tl) : tlsB (l ++ m) = tlsB l ++ tlsB m := by simp [tlsB]
def medT (x : Nf) : List Tl := match x.med with | none => [] | some m => [(128, 4, num4 m)]
def atomT (x : Nf) : List Tl := if x.atomic then [(64, 6, [])] else []
def makT (x : Nf) : List Tl := match x.maker with | none => [] | some m => [(192, 7, num4 m.1 ++ num4 m.2)]
def comT (x : Nf) : List Tl := if x.comms.length = 0 then [] else [(192, 8, asB x.comms)]
structure Lq where
  q : List Bs
  ad : Option Addr
  c : Nat
theorem partsNil (w : World) : PartsV w none 0 [] := ⟨Vw.nil w 1, fun _ h => absurd h List.not_mem_nil⟩
theorem parts1 {K : Hl} {R R1 R2 : List HP} {w : World} {g n c : Nat} {a : Option Addr} {l : List Int} {T : TypeId} (hr : Rdw K R w) (t1 : Tk R (pts g [.slice a n c] T) R1) (t2 : Tk R (Ar 5 1 byC (.slice a n c) l) R2) (hn : l.length = n) : PartsV w (some ⟨g, 0, none⟩) 1 [⟨a, c, l⟩] := by
  subst hn
  refine ⟨Src.lit (sz := 1) (m := 1) t1 rfl (by decide) w hr, fun s hs => ?_⟩
  obtain rfl := List.mem_singleton.1 hs
  exact Src.ar t2 w hr
theorem parts2 {K : Hl} {R R1 R2 R3 : List HP} {w : World} {g n c n' c' : Nat} {a a' : Option Addr} {l l' : List Int} {T : TypeId} (hr : Rdw K R w) (t1 : Tk R (pts g [.slice a n c, .slice a' n' c'] T) R1) (t2 : Tk R (Ar 5 1 byC (.slice a n c) l) R2) (t3 : Tk R (Ar 5 1 byC (.slice a' n' c') l') R3) (hn : l.length = n) (hn' : l'.length = n') : PartsV w (some ⟨g, 0, none⟩) 2 [⟨a, c, l⟩, ⟨a', c', l'⟩] := by
  subst hn hn'
  refine ⟨Src.lit (sz := 1) (m := 2) t1 rfl (by decide) w hr, fun s hs => ?_⟩
  rcases List.mem_cons.1 hs with rfl | hs
  · exact Src.ar t2 w hr
  · obtain rfl := List.mem_singleton.1 hs
    exact Src.ar t3 w hr
theorem tlsB_len (l : List Tl) : (tlsB l).length ≤ (l.map fun t => 4 + t.2.2.length).sum := by
  induction l with
  | nil => exact Nat.le_refl _
  | cons t l ih =>
    have : tlsB (t :: l) = tlB t ++ tlsB l := rfl
    rw [this, List.length_append, List.map_cons, List.sum_cons]
    have : (tlB t).length ≤ 4 + t.2.2.length := by
      unfold tlB putB
      split <;> simp <;> omega
    omega
theorem num4_len (n : Int) : (num4 n).length = 4 := rfl
theorem sys_s (n : Int) (hn : U32 n) : Pact Tryz.prog 136 #[.int .u32 n, .bool true] (fun _ => True) [] (fun u L' => ∃ b, u = .slice (some ⟨b, 0, none⟩) 4 4 ∧ L' = [Ar4 b n]) := by
  refine pact Tryz.func136 rfl Tryz.ntmps136 rfl ?_
  intro W K _
  (repeat' (first | ((with_reducible apply gL); (first | refine yL0 ?_ | refine yL ?_ | ((with_reducible apply gL_go); (first | (refine JL_goq (num_s n hn) (hφ := xF) (h := ?_); rintro _ _ ⟨b, rfl, rfl⟩; try simp only [List.cons_append, List.nil_append]) | fail)) | fail)) | refine yJ ?_ | ((with_reducible apply gJ_if); (first | (refine J_if xR ?_ ?_ <;> intro _ <;> (try (exfalso; first | contradiction | omega))) | (refine J_ifb xR ?_ ?_ <;> (intro hgb; subst hgb)) | (refine J_ifb xR ?_ ?_ <;> intro _) | fail)) | fail))
  exact J_ret1 rfl (by rfl) fun w H => ⟨_, ⟨_, rfl, rfl⟩, H.sel xZ⟩
theorem medT_len (x : Nf) : (tlsB (medT x)).length ≤ 100 := by
  refine Nat.le_trans (tlsB_len _) ?_
  unfold medT
  split <;> simp [num4]
theorem atomT_len (x : Nf) : (tlsB (atomT x)).length ≤ 100 := by
  refine Nat.le_trans (tlsB_len _) ?_
  unfold atomT
  split <;> simp
theorem makT_len (x : Nf) : (tlsB (makT x)).length ≤ 100 := by
  refine Nat.le_trans (tlsB_len _) ?_
  unfold makT
  split <;> simp [num4]
theorem perhaps_s (wb : Nat) (l : List Int) (d : At) (hd : AtF d) (hl : l.length ≤ 1000000) : Pact Tryz.prog 121 #[.pointer (some ⟨wb, 0, none⟩), .agg (atC d).toArray, .bool true] (fun w => AtV w d) [wrO wb l] (fun u L' => L' = [wrO wb (l ++ tlsB (medT d.nf ++ atomT d.nf ++ makT d.nf ++ comT d.nf))]) := by
  refine pact Tryz.func121 rfl Tryz.ntmps121 rfl ?_
  intro W K hK
  have hd2 := hd.comms
  have hc : Kn K (fun w => Vw w (.slice d.ca d.comms.length d.cc) 1 d.comms.length (flat u32C d.comms)) := hK.imp fun _ h => h.comms
  obtain ⟨l1, hl1⟩ : ∃ l1, l ++ tlsB (medT d.nf) = l1 := ⟨_, rfl⟩
  have hn1 : l1.length ≤ 1000000 + 100 := by have := medT_len d.nf; rw [← hl1, List.length_append]; omega
  obtain ⟨l2, hl2⟩ : ∃ l2, l1 ++ tlsB (atomT d.nf) = l2 := ⟨_, rfl⟩
  have hn2 : l2.length ≤ 1000000 + 200 := by have := atomT_len d.nf; rw [← hl2, List.length_append]; omega
  obtain ⟨l3, hl3⟩ : ∃ l3, l2 ++ tlsB (makT d.nf) = l3 := ⟨_, rfl⟩
  have hn3 : l3.length ≤ 1000000 + 300 := by have := makT_len d.nf; rw [← hl3, List.length_append]; omega
  have hfin : l ++ tlsB (medT d.nf ++ atomT d.nf ++ makT d.nf ++ comT d.nf) = l3 ++ tlsB (comT d.nf) := by
    rw [← hl3, ← hl2, ← hl1]
    simp [tlsB_append]
  rw [hfin]
  (iterate 4 (first | ((with_reducible apply gL); (first | refine yL0 ?_ | refine yL ?_ | (refine yM ?_; intro _) | (refine yA ?_; intro _ _ _ _) | fail)) | ((with_reducible apply gD); (first | (refine JD_nil ?_; try simp only [List.cons_append, List.nil_append]) | (refine JD_bar ?_; try simp only [List.cons_append, List.nil_append]) | refine yD ?_ | (refine yE ?_; intro _) | fail)) | refine yJ ?_ | ((with_reducible apply gJ_if); (first | (refine J_if xR ?_ ?_ <;> intro _ <;> (try (exfalso; first | contradiction | omega))) | (refine J_ifb xR ?_ ?_ <;> (intro hgb; subst hgb)) | (refine J_ifb xR ?_ ?_ <;> intro _) | fail)) | refine J_draw (id := 6) [0, 1, 2, 3, 5, 6, 4, 7, 8] [9] mixed xC xD xD ?_ | fail))
  rename_i b0
  refine J_seq ?_
  refine J_cut (α := Unit) (fun _ => True) (fun _ => [(0, .pointer (some ⟨wb, 0, none⟩)), (2, .bool true), (4, .pointer (some ⟨b0, 0, none⟩))]) (fun _ => [pts b0 (atC d) 29, wrO wb l1]) ?_ (fun _ _ => ?_)
  · (repeat' (first | ((with_reducible apply gL); (first | refine yL0 ?_ | refine yL ?_ | ((with_reducible apply gL_go); (first | (refine JL_goq (num_s d.med hd.num.med) (hφ := xF) (h := ?_); rintro _ _ ⟨b1, rfl, rfl⟩; try simp only [List.cons_append, List.nil_append]) | (refine JL_goq (usual_s wb l 4 _ 1 [⟨some ⟨b1, 0, none⟩, 4, num4 d.med⟩] (by decide) (by decide) (by simp) (by simp [catB, num4]) (by omega)) (hφ := (by (try simp only [List.cons_append, List.nil_append]); exact fun w hr => parts1 (n := 4) hr xA xA rfl)) (h := ?_); rintro _ _ rfl; try simp only [List.cons_append, List.nil_append]) | fail)) | (refine yM ?_; intro _) | (refine yA ?_; intro _ _ _ _) | fail)) | ((with_reducible apply gD); (first | (refine JD_nil ?_; try simp only [List.cons_append, List.nil_append]) | (refine JD_bar ?_; try simp only [List.cons_append, List.nil_append]) | refine yD ?_ | ((with_reducible apply gD_go); (first | (refine JD_goq (num_s d.med hd.num.med) (hφ := xF) (h := ?_); rintro _ _ ⟨b1, rfl, rfl⟩; try simp only [List.cons_append, List.nil_append]) | (refine JD_goq (usual_s wb l 4 _ 1 [⟨some ⟨b1, 0, none⟩, 4, num4 d.med⟩] (by decide) (by decide) (by simp) (by simp [catB, num4]) (by omega)) (hφ := (by (try simp only [List.cons_append, List.nil_append]); exact fun w hr => parts1 (n := 4) hr xA xA rfl)) (h := ?_); rintro _ _ rfl; try simp only [List.cons_append, List.nil_append]) | fail)) | (refine yE ?_; intro _) | fail)) | refine yJ ?_ | ((with_reducible apply gJ_if); (first | (refine J_if xR ?_ ?_ <;> intro _ <;> (try (exfalso; first | contradiction | omega))) | (refine J_ifb xR ?_ ?_ <;> (intro hgb; subst hgb)) | (refine J_ifb xR ?_ ?_ <;> intro _) | fail)) | refine J_draw (id := 6) [0, 1, 2, 3, 5, 6, 4, 7, 8] [9] mixed xC xD xD ?_ | fail))
    · refine J_meet () trivial ⟨rfl, rfl, rfl, trivial⟩ (fun w H => ?_)
      have e : l ++ putB (fl 4) 4 (catB [⟨some ⟨b1, 0, none⟩, 4, num4 d.med⟩]) = l1 := by
        rw [← hl1]
        simp_all [medT, At.nf, tlsB, tlB, catB, fl]
      rw [e] at H
      exact H.sel xZ
    · refine J_meet () trivial ⟨rfl, rfl, rfl, trivial⟩ (fun w H => ?_)
      have e : l = l1 := by
        rw [← hl1]
        simp_all [medT, At.nf, tlsB]
      rw [e] at H
      exact H.sel xZ
  refine J_seq ?_
  refine J_cut (α := Unit) (fun _ => True) (fun _ => [(0, .pointer (some ⟨wb, 0, none⟩)), (2, .bool true), (4, .pointer (some ⟨b0, 0, none⟩))]) (fun _ => [pts b0 (atC d) 29, wrO wb l2]) ?_ (fun _ _ => ?_)
  · (repeat' (first | ((with_reducible apply gL); (first | refine yL0 ?_ | refine yL ?_ | ((with_reducible apply gL_go); (first | (refine JL_goq (usual_s wb l1 6 none 0 [] (by decide) (by decide) (by simp) (by simp [catB]) (by omega)) (hφ := (by (try simp only [List.cons_append, List.nil_append]); exact fun w hr => partsNil w)) (h := ?_); rintro _ _ rfl; try simp only [List.cons_append, List.nil_append]) | fail)) | (refine yM ?_; intro _) | (refine yA ?_; intro _ _ _ _) | fail)) | ((with_reducible apply gD); (first | (refine JD_nil ?_; try simp only [List.cons_append, List.nil_append]) | (refine JD_bar ?_; try simp only [List.cons_append, List.nil_append]) | refine yD ?_ | ((with_reducible apply gD_go); (first | (refine JD_goq (usual_s wb l1 6 none 0 [] (by decide) (by decide) (by simp) (by simp [catB]) (by omega)) (hφ := (by (try simp only [List.cons_append, List.nil_append]); exact fun w hr => partsNil w)) (h := ?_); rintro _ _ rfl; try simp only [List.cons_append, List.nil_append]) | fail)) | (refine yE ?_; intro _) | fail)) | refine yJ ?_ | ((with_reducible apply gJ_if); (first | (refine J_if xR ?_ ?_ <;> intro _ <;> (try (exfalso; first | contradiction | omega))) | (refine J_ifb xR ?_ ?_ <;> (intro hgb; subst hgb)) | (refine J_ifb xR ?_ ?_ <;> intro _) | fail)) | refine J_draw (id := 6) [0, 1, 2, 3, 5, 6, 4, 7, 8] [9] mixed xC xD xD ?_ | fail))
    · refine J_meet () trivial ⟨rfl, rfl, rfl, trivial⟩ (fun w H => ?_)
      have e : l1 ++ putB (fl 6) 6 (catB []) = l2 := by
        rw [← hl2]
        simp_all [atomT, At.nf, tlsB, tlB, catB, fl]
      rw [e] at H
      exact H.sel xZ
    · refine J_meet () trivial ⟨rfl, rfl, rfl, trivial⟩ (fun w H => ?_)
      have e : l1 = l2 := by
        rw [← hl2]
        simp_all [atomT, At.nf, tlsB]
      rw [e] at H
      exact H.sel xZ
  refine J_seq ?_
  refine J_cut (α := Unit) (fun _ => True) (fun _ => [(0, .pointer (some ⟨wb, 0, none⟩)), (2, .bool true), (4, .pointer (some ⟨b0, 0, none⟩))]) (fun _ => [pts b0 (atC d) 29, wrO wb l3]) ?_ (fun _ _ => ?_)
  · (repeat' (first | ((with_reducible apply gL); (first | refine yL0 ?_ | refine yL ?_ | ((with_reducible apply gL_go); (first | (refine JL_goq (sys_s d.makerAS hd.num.makerAS) (hφ := xF) (h := ?_); rintro _ _ ⟨b1, rfl, rfl⟩; try simp only [List.cons_append, List.nil_append]) | (refine JL_goq (num_s d.maker hd.num.maker) (hφ := xF) (h := ?_); rintro _ _ ⟨b2, rfl, rfl⟩; try simp only [List.cons_append, List.nil_append]) | (refine JL_goq (usual_s wb l2 7 _ 2 [⟨some ⟨b1, 0, none⟩, 4, num4 d.makerAS⟩, ⟨some ⟨b2, 0, none⟩, 4, num4 d.maker⟩] (by decide) (by decide) (by simp) (by simp [catB, num4]) (by omega)) (hφ := (by (try simp only [List.cons_append, List.nil_append]); exact fun w hr => parts2 (n := 4) (n' := 4) hr xA xA xA rfl rfl)) (h := ?_); rintro _ _ rfl; try simp only [List.cons_append, List.nil_append]) | fail)) | (refine yM ?_; intro _) | (refine yA ?_; intro _ _ _ _) | fail)) | ((with_reducible apply gD); (first | (refine JD_nil ?_; try simp only [List.cons_append, List.nil_append]) | (refine JD_bar ?_; try simp only [List.cons_append, List.nil_append]) | refine yD ?_ | ((with_reducible apply gD_go); (first | (refine JD_goq (sys_s d.makerAS hd.num.makerAS) (hφ := xF) (h := ?_); rintro _ _ ⟨b1, rfl, rfl⟩; try simp only [List.cons_append, List.nil_append]) | (refine JD_goq (num_s d.maker hd.num.maker) (hφ := xF) (h := ?_); rintro _ _ ⟨b2, rfl, rfl⟩; try simp only [List.cons_append, List.nil_append]) | (refine JD_goq (usual_s wb l2 7 _ 2 [⟨some ⟨b1, 0, none⟩, 4, num4 d.makerAS⟩, ⟨some ⟨b2, 0, none⟩, 4, num4 d.maker⟩] (by decide) (by decide) (by simp) (by simp [catB, num4]) (by omega)) (hφ := (by (try simp only [List.cons_append, List.nil_append]); exact fun w hr => parts2 (n := 4) (n' := 4) hr xA xA xA rfl rfl)) (h := ?_); rintro _ _ rfl; try simp only [List.cons_append, List.nil_append]) | fail)) | (refine yE ?_; intro _) | fail)) | refine yJ ?_ | ((with_reducible apply gJ_if); (first | (refine J_if xR ?_ ?_ <;> intro _ <;> (try (exfalso; first | contradiction | omega))) | (refine J_ifb xR ?_ ?_ <;> (intro hgb; subst hgb)) | (refine J_ifb xR ?_ ?_ <;> intro _) | fail)) | refine J_draw (id := 6) [0, 1, 2, 3, 5, 6, 4, 7, 8] [9] mixed xC xD xD ?_ | fail))
    · refine J_meet () trivial ⟨rfl, rfl, rfl, trivial⟩ (fun w H => ?_)
      have e : l2 ++ putB (fl 7) 7 (catB [⟨some ⟨b1, 0, none⟩, 4, num4 d.makerAS⟩, ⟨some ⟨b2, 0, none⟩, 4, num4 d.maker⟩]) = l3 := by
        rw [← hl3]
        simp_all [makT, At.nf, tlsB, tlB, catB, fl]
      rw [e] at H
      exact H.sel xZ
    · refine J_meet () trivial ⟨rfl, rfl, rfl, trivial⟩ (fun w H => ?_)
      have e : l2 = l3 := by
        rw [← hl3]
        simp_all [makT, At.nf, tlsB]
      rw [e] at H
      exact H.sel xZ
  clear hl3 hl2 hl1 hfin
  (repeat' (first | ((with_reducible apply gL); (first | refine yL0 ?_ | refine yL ?_ | (refine yM ?_; intro _) | (refine yA ?_; intro _ _ _ _) | fail)) | ((with_reducible apply gD); (first | (refine JD_nil ?_; try simp only [List.cons_append, List.nil_append]) | (refine JD_bar ?_; try simp only [List.cons_append, List.nil_append]) | refine yD ?_ | (refine yE ?_; intro _) | fail)) | refine yJ ?_ | ((with_reducible apply gJ_if); (first | (refine J_if xR ?_ ?_ <;> intro _ <;> (try (exfalso; first | contradiction | omega))) | (refine J_ifb xR ?_ ?_ <;> (intro hgb; subst hgb)) | (refine J_ifb xR ?_ ?_ <;> intro _) | fail)) | refine J_draw (id := 6) [0, 1, 2, 3, 5, 6, 4, 7, 8] [9] mixed xC xD xD ?_ | fail))
  · refine J_loop (α := Lq) ⟨[], none, 0⟩ (fun x => d.comms.length - x.q.length) (fun x => x.q.length ≤ d.comms.length ∧ x.q.map (·.l) = (d.comms.take x.q.length).map num4) (fun x => [(0, .pointer (some ⟨wb, 0, none⟩)), (38, .slice d.ca d.comms.length d.cc), (39, .int .i64 d.comms.length), (40, .int .i64 x.q.length), (6, .slice x.ad x.q.length x.c)])
      (fun x => [Ar 102 1 bsC (.slice x.ad x.q.length x.c) x.q, has (fun w => ∀ s ∈ x.q, bsV w s), wrO wb l3]) ⟨Nat.zero_le _, rfl⟩ ⟨rfl, rfl, rfl, rfl, rfl, trivial⟩ (fun w H => (Ow.hasTrue (φ := fun w => ∀ s ∈ ([] : List Bs), bsV w s) (Ow.arNil (e := 102) (sz := 1) (enc := bsC) H) (by intro _ _ h; exact absurd h List.not_mem_nil)).sel xZ) ?_
    rintro ⟨q, ad, cc⟩ ⟨hq, hsame⟩
    dsimp only at hq hsame ⊢
    by_cases hlt : q.length < d.comms.length
    · obtain ⟨x, hx⟩ : ∃ x, d.comms[q.length]? = some x := ⟨_, List.getElem?_eq_getElem hlt⟩
      have hxn := hd.num.comms x (List.mem_of_getElem? hx)
      (repeat' (first | ((with_reducible apply gL); (first | refine yL0 ?_ | ((with_reducible apply gL_c_append); (first | (refine JL_ap1 (z := Bs.mk (some ⟨b3, 0, none⟩) 4 (num4 x)) (tabE etab_ok xR) xR xR xA xA xC xR xL xR (by omega) xR xR ?_; intro ad3 c3 _ _) | fail)) | refine yL ?_ | ((with_reducible apply gL_go); (first | (refine JL_goq (num_s x hxn) (hφ := xF) (h := ?_); rintro _ _ ⟨b3, rfl, rfl⟩; try simp only [List.cons_append, List.nil_append]) | fail)) | (refine yM ?_; intro _) | (refine yA ?_; intro _ _ _ _) | fail)) | ((with_reducible apply gD); (first | (refine JD_nil ?_; try simp only [List.cons_append, List.nil_append]) | (refine JD_bar ?_; try simp only [List.cons_append, List.nil_append]) | refine yD ?_ | ((with_reducible apply gD_go); (first | (refine JD_goq (num_s x hxn) (hφ := xF) (h := ?_); rintro _ _ ⟨b3, rfl, rfl⟩; try simp only [List.cons_append, List.nil_append]) | fail)) | (refine yE ?_; intro _) | fail)) | refine yJ ?_ | ((with_reducible apply gJ_if); (first | (refine J_if xR ?_ ?_ <;> intro _ <;> (try (exfalso; first | contradiction | omega))) | (refine J_ifb xR ?_ ?_ <;> (intro hgb; subst hgb)) | (refine J_ifb xR ?_ ?_ <;> intro _) | fail)) | refine J_draw (id := 6) [0, 1, 2, 3, 5, 6, 4, 7, 8] [9] mixed xC xD xD ?_ | fail))
      refine J_again ⟨q ++ [Bs.mk (some ⟨b3, 0, none⟩) 4 (num4 x)], ad3, c3⟩ (by simp; omega) ⟨by simp; omega, ?_⟩ ⟨rfl, rfl, rfl, ?_, ?_, trivial⟩ (fun w H => ?_)
      · simp only [List.length_append, List.length_cons, List.length_nil]
        rw [take_snoc hx, List.map_append, List.map_append, hsame]
        rfl
      · show some _ = some _
        simp
      · show some _ = some _
        simp
      · simp only [List.length_append, List.length_cons, List.length_nil]
        refine (Ow.has (M := [Ar4 b3 x, has (fun w => ∀ s ∈ q, bsV w s)]) (φ := fun w => ∀ s ∈ q ++ [Bs.mk (some ⟨b3, 0, none⟩) 4 (num4 x)], bsV w s) H xZ ?_).sel xZ
        intro w hr s hs
        rcases List.mem_append.1 hs with hs | hs
        · exact hr.has (.there .here) s hs
        · obtain rfl := List.mem_singleton.1 hs
          exact Src.ar .here w hr
    · have hql : q.length = d.comms.length := by omega
      have hcat : catB q = asB d.comms := by
        rw [hql, List.take_length] at hsame
        unfold catB asB
        rw [List.flatMap_def, List.flatMap_def, hsame]
      have hcl : (catB q).length ≤ 65535 := by rw [hcat, asB_len]; omega
      (repeat' (first | ((with_reducible apply gL); (first | refine yL0 ?_ | refine yL ?_ | ((with_reducible apply gL_go); (first | (refine JL_goq (usual_s wb l3 8 ad cc q (by decide) (by decide) (by omega) hcl (by omega)) (hφ := (by (try simp only [List.cons_append, List.nil_append]); exact fun w hr => ⟨Src.ar xA w hr, fun s hs => hr.has (φ := fun w => ∀ s ∈ q, bsV w s) xA s hs⟩)) (h := ?_); rintro _ _ rfl; try simp only [List.cons_append, List.nil_append]) | fail)) | (refine yM ?_; intro _) | (refine yA ?_; intro _ _ _ _) | fail)) | ((with_reducible apply gD); (first | (refine JD_nil ?_; try simp only [List.cons_append, List.nil_append]) | (refine JD_bar ?_; try simp only [List.cons_append, List.nil_append]) | refine yD ?_ | ((with_reducible apply gD_go); (first | (refine JD_goq (usual_s wb l3 8 ad cc q (by decide) (by decide) (by omega) hcl (by omega)) (hφ := (by (try simp only [List.cons_append, List.nil_append]); exact fun w hr => ⟨Src.ar xA w hr, fun s hs => hr.has (φ := fun w => ∀ s ∈ q, bsV w s) xA s hs⟩)) (h := ?_); rintro _ _ rfl; try simp only [List.cons_append, List.nil_append]) | fail)) | (refine yE ?_; intro _) | fail)) | refine yJ ?_ | ((with_reducible apply gJ_if); (first | (refine J_if xR ?_ ?_ <;> intro _ <;> (try (exfalso; first | contradiction | omega))) | (refine J_ifb xR ?_ ?_ <;> (intro hgb; subst hgb)) | (refine J_ifb xR ?_ ?_ <;> intro _) | fail)) | refine J_draw (id := 6) [0, 1, 2, 3, 5, 6, 4, 7, 8] [9] mixed xC xD xD ?_ | fail))
      refine J_end0 rfl fun w H => ⟨_, rfl, ?_⟩
      have e : tlsB (comT d.nf) = putB (fl 8) 8 (catB q) := by
        have : ¬ d.nf.comms.length = 0 := by show ¬ d.comms.length = 0; omega
        unfold comT
        rw [if_neg this, hcat]
        simp [tlsB, tlB, fl, At.nf]
      rw [e]
      exact H.sel xZ
  · refine J_end0 rfl fun w H => ⟨_, rfl, ?_⟩
    have e : tlsB (comT d.nf) = [] := by
      have : d.nf.comms.length = 0 := by show d.comms.length = 0; omega
      unfold comT
      rw [if_pos this]
      rfl
    rw [e, List.append_nil]
    exact H.sel xZ
end Go.Proofs.YtnhabkipjmgaaaaGreat
namespace Go.Proofs.YtnhabkipjmgaaaaGreat
set_option linter.unusedSimpArgs false
set_option linter.unusedVariables false
set_option maxRecDepth 20000
set_option maxHeartbeats 4000000
open Go.RowKit Go.Pm

def oT (o : Int × List Int) : Tl := (224, o.1, o.2)
/-- Attributes as a list of what is put. -/
def attrT (x : Nf) : List Tl := [(64, 1, [x.origin]), (64, 2, pB x.path), (64, 3, num4 x.next)] ++ (medT x ++ atomT x ++ makT x ++ comT x) ++ x.others.map oT
def attrB (x : Nf) : List Int := tlsB (attrT x)
theorem ckO_all : ∀ (l : List (Int × List Int)) (n : Int), ckO l n = true → ∀ o ∈ l, n < o.1 ∧ o.1 ≤ 255 ∧ kno o.1 = false ∧ o.2.length ≤ 255
  | [], _, _, o, ho => absurd ho List.not_mem_nil
  | x :: l, n, h, o, ho => by
    unfold ckO at h
    split at h
    · cases h
    · rename_i hn
      rcases List.mem_cons.1 ho with rfl | ho
      · refine ⟨by omega, by omega, ?_, by omega⟩
        rcases hb : kno o.1 with _ | _
        · rfl
        · exact absurd (.inr (.inr (.inl hb))) hn
      · have := ckO_all l x.1 h o ho
        exact ⟨by omega, this.2⟩
theorem putB_len (f k : Int) (d : List Int) : (putB f k d).length ≤ 4 + d.length := by
  unfold putB
  split <;> simp <;> omega
theorem oT_len (l : List (Int × List Int)) (h : ∀ o ∈ l, o.2.length ≤ 255) : (tlsB (l.map oT)).length ≤ 259 * l.length := by
  induction l with
  | nil => exact Nat.le_refl _
  | cons o l ih =>
    have e : tlsB ((o :: l).map oT) = putB 224 o.1 o.2 ++ tlsB (l.map oT) := rfl
    have h1 := ih (fun x hx => h x (List.mem_cons_of_mem _ hx))
    have h2 := putB_len 224 o.1 o.2
    have h3 := h o (List.mem_cons_self ..)
    rw [e, List.length_append, List.length_cons]
    omega
theorem usual_e (wb : Nat) (l l' : List Int) (k : Int) (a : Option Addr) (c : Nat) (p : List Bs) (D : List Int) (hD : catB p = D) (hl' : l ++ putB (fl k) k D = l') (hk : 0 ≤ k ∧ k ≤ 255) (hkn : kno k = true) (hp : p.length ≤ 1000) (hd : D.length ≤ 65535) (hl : l.length ≤ 1000000000) : Pact Tryz.prog 119 #[.pointer (some ⟨wb, 0, none⟩), .int .i64 k, .slice a p.length c] (fun w => PartsV w a c p) [wrO wb l] (fun u L' => L' = [wrO wb l']) := by
  subst hD hl'
  exact usual_s wb l k a c p hk hkn hp hd hl
theorem perhaps_e (wb : Nat) (l l' : List Int) (d : At) (hd : AtF d) (hl' : l ++ tlsB (medT d.nf ++ atomT d.nf ++ makT d.nf ++ comT d.nf) = l') (hl : l.length ≤ 1000000) : Pact Tryz.prog 121 #[.pointer (some ⟨wb, 0, none⟩), .agg (atC d).toArray, .bool true] (fun w => AtV w d) [wrO wb l] (fun u L' => L' = [wrO wb l']) := by
  subst hl'
  exact perhaps_s wb l d hd hl
theorem put_e (wb : Nat) (l l' : List Int) (f k : Int) (a : Option Addr) (c : Nat) (p : List Bs) (D : List Int) (hD : catB p = D) (hl' : l ++ putB f k D = l') (hk : 0 ≤ k ∧ k ≤ 255) (hp : p.length ≤ 1000) (hd : D.length ≤ 65535) (hl : l.length ≤ 1000000000) : Pact Tryz.prog 123 #[.pointer (some ⟨wb, 0, none⟩), .int .u8 f, .int .i64 k, .slice a p.length c] (fun w => PartsV w a c p) [wrO wb l] (fun u L' => L' = [wrO wb l']) := by
  subst hD hl'
  exact put_s wb l f k a c p hk hp hd hl
theorem partsL {K : Hl} {R R1 R2 : List HP} {w : World} {g n b : Nat} {l : List Int} {cs : List Value} {T T' : TypeId} (hr : Rdw K R w) (t1 : Tk R (pts g [.slice (some ⟨b, 0, none⟩) n n] T) R1) (t2 : Tk R (pts b cs T') R2) (hy : NumsOf cs l) (hn : l.length = n) (hm : Nat.ble n 1000000 = true) : PartsV w (some ⟨g, 0, none⟩) 1 [⟨some ⟨b, 0, none⟩, n, l⟩] := by
  subst hn
  refine ⟨Src.lit (sz := 1) (m := 1) t1 rfl (by decide) w hr, fun s hs => ?_⟩
  obtain rfl := List.mem_singleton.1 hs
  exact Src.nums t2 hy (Nat.beq_refl _) hm w hr
theorem partsK {K : Hl} {R R1 : List HP} {w : World} {g n c : Nat} {a : Option Addr} {l : List Int} {T : TypeId} (hr : Rdw K R w) (t1 : Tk R (pts g [.slice a n c] T) R1) (hv : Vw w (.slice a n c) 1 n (flat byC l)) (hn : l.length = n) : PartsV w (some ⟨g, 0, none⟩) 1 [⟨a, c, l⟩] := by
  subst hn
  refine ⟨Src.lit (sz := 1) (m := 1) t1 rfl (by decide) w hr, fun s hs => ?_⟩
  obtain rfl := List.mem_singleton.1 hs
  exact hv
theorem okN_at {d : At} (h : okN d.nf = true) : (0 ≤ d.origin ∧ d.origin ≤ 2) ∧ ckP (pN d.path) 0 = true ∧ (d.next ≠ 0 ∧ d.next < 3758096384) ∧ (d.hasMaker = true → d.makerAS ≠ 0) ∧ d.comms.length ≤ 32 ∧ d.others.length ≤ 8 ∧ ckO (oN d.others) (-1) = true := by
  rcases Classical.em ((0 ≤ d.origin ∧ d.origin ≤ 2) ∧ ckP (pN d.path) 0 = true ∧ (d.next ≠ 0 ∧ d.next < 3758096384) ∧ (d.hasMaker = true → d.makerAS ≠ 0) ∧ d.comms.length ≤ 32 ∧ d.others.length ≤ 8 ∧ ckO (oN d.others) (-1) = true) with h1 | h1
  · exact h1
  · rw [okN_f h1] at h
    cases h
structure PutR (d : At) (v : Value) (L' : List HP) : Prop where
  ex : ∃ a c l, v = .tuple #[.slice a l.length c, .int .i64 (er (okN d.nf))] ∧ (okN d.nf = true → l = attrB d.nf) ∧ l.length ≤ 1000000 ∧ L' = [Ar 5 1 byC (.slice a l.length c) l]
theorem Put_s (d : At) (hd : AtF d) : Pact Tryz.prog 92 #[.agg (atC d).toArray, .bool true] (fun w => AtV w d) [] (PutR d) := by
  refine pact Tryz.func92 rfl Tryz.ntmps92 rfl ?_
  intro W K hK
  have hck := check_s d hd
  rcases hok : okN d.nf with _ | _
  · rw [hok] at hck
    (repeat' (first | ((with_reducible apply gL); (first | refine yL0 ?_ | refine yL ?_ | ((with_reducible apply gL_go); (first | (refine JL_goq (hck) (hφ := (by (try simp only [List.cons_append, List.nil_append]); exact fun w hr => hK w hr.1)) (h := ?_); rintro _ _ ⟨rfl, rfl⟩; try simp only [List.cons_append, List.nil_append]) | fail)) | (refine yM ?_; intro _) | ((with_reducible apply gL_gd); (first | (refine JL_guard xR xR ?_ ?_ <;> intro _ <;> (try (exfalso; first | contradiction | omega))) | (refine JL_guardb xR xR ?_ ?_ <;> (intro hgb; subst hgb)) | (refine JL_guardb xR xR ?_ ?_ <;> (intro hgb; fail_if_success (have : type_of% hgb := rfl))) | fail)) | fail)) | ((with_reducible apply gD); (first | (refine JD_nil ?_; try simp only [List.cons_append, List.nil_append]) | (refine JD_bar ?_; try simp only [List.cons_append, List.nil_append]) | refine yD ?_ | ((with_reducible apply gD_go); (first | (refine JD_goq (hck) (hφ := (by (try simp only [List.cons_append, List.nil_append]); exact fun w hr => hK w hr.1)) (h := ?_); rintro _ _ ⟨rfl, rfl⟩; try simp only [List.cons_append, List.nil_append]) | fail)) | (refine yE ?_; intro _) | fail)) | refine yJ ?_ | ((with_reducible apply gJ_if); (first | (refine J_if xR ?_ ?_ <;> intro _ <;> (try (exfalso; first | contradiction | omega))) | (refine J_ifb xR ?_ ?_ <;> (intro hgb; subst hgb)) | (refine J_ifb xR ?_ ?_ <;> intro _) | fail)) | refine J_draw (id := 14) [0, 1, 2, 4, 5, 3, 6, 7] [8] mixed xC xD xD ?_ | fail))
    refine J_ret2 rfl (by rfl) (by rfl) fun w H => ⟨_, ⟨none, 0, [], by rw [hok]; rfl, (by rw [hok]; exact fun h => absurd h (by decide)), by simp, rfl⟩, (Ow.arNil (e := 5) (sz := 1) (enc := byC) H).sel xZ⟩
  · rw [hok] at hck
    have hd1 := hd.path
    have hd3 := hd.others
    obtain ⟨⟨ho1, ho2⟩, hcp, _, _, _, _, hco⟩ := okN_at hok
    obtain ⟨hos, h64⟩ := (ckP_iff (pN d.path) 0 (by omega)).1 hcp
    have hall := ckO_all _ _ hco
    have hpl := pB_len (pN d.path)
    have hpn : (pN d.path).length = d.path.length := by simp [pN]
    obtain ⟨Pb, hPb⟩ : ∃ Pb, pB (pN d.path) = Pb := ⟨_, rfl⟩
    have hpp := pPut_s d.pa d.pc d.path (by omega) hd.num.path hcp
    rw [hPb] at hpl hpp
    have hpl2 : Pb.length ≤ 300 := by omega
    have hov : Kn K (fun w => Vw w (.slice d.oa d.others.length d.oc) 2 d.others.length (flat rwC d.others)) := hK.imp fun _ h => h.others.vw
    obtain ⟨l1, hl1⟩ : ∃ l1, [] ++ putB (fl 1) 1 [d.origin] = l1 := ⟨_, rfl⟩
    obtain ⟨l2, hl2⟩ : ∃ l2, l1 ++ putB (fl 2) 2 Pb = l2 := ⟨_, rfl⟩
    obtain ⟨l3, hl3⟩ : ∃ l3, l2 ++ putB (fl 3) 3 (num4 d.next) = l3 := ⟨_, rfl⟩
    obtain ⟨l4, hl4⟩ : ∃ l4, l3 ++ tlsB (medT d.nf ++ atomT d.nf ++ makT d.nf ++ comT d.nf) = l4 := ⟨_, rfl⟩
    have hn1 : l1.length ≤ 5 := by rw [← hl1, List.nil_append]; exact putB_len _ _ _
    have hn2 : l2.length ≤ 400 := by have := putB_len (fl 2) 2 Pb; rw [← hl2, List.length_append]; omega
    have hn3 : l3.length ≤ 500 := by have := putB_len (fl 3) 3 (num4 d.next); rw [← hl3, List.length_append]; have : (num4 d.next).length = 4 := rfl; omega
    have hn4 : l4.length ≤ 2000 := by
      have h1 := medT_len d.nf
      have h2 := atomT_len d.nf
      have h3 := makT_len d.nf
      have h4 : (tlsB (comT d.nf)).length ≤ 200 := by
        unfold comT
        split
        · exact Nat.zero_le _
        · have : tlsB [((192 : Int), (8 : Int), asB d.nf.comms)] = putB 192 8 (asB d.nf.comms) ++ [] := rfl
          have h5 := putB_len 192 8 (asB d.nf.comms)
          have h6 := asB_len d.nf.comms
          have h7 : d.nf.comms.length ≤ 40 := hd.comms
          rw [this, List.append_nil]
          omega
      rw [← hl4]
      simp only [tlsB_append, List.length_append]
      omega
    (repeat' (first | ((with_reducible apply gL); (first | refine yL0 ?_ | refine yL ?_ | ((with_reducible apply gL_go); (first | (refine JL_goq (hck) (hφ := (by (try simp only [List.cons_append, List.nil_append]); exact fun w hr => hK w hr.1)) (h := ?_); rintro _ _ ⟨rfl, rfl⟩; try simp only [List.cons_append, List.nil_append]) | (refine JL_goq (hpp) (hφ := (by (try simp only [List.cons_append, List.nil_append]); exact fun w hr => (hK w hr.1).path)) (h := ?_); rintro _ _ ⟨a1, c1, rfl, rfl⟩; try simp only [List.cons_append, List.nil_append]) | fail)) | (refine yM ?_; intro _) | ((with_reducible apply gL_gd); (first | (refine JL_guard xR xR ?_ ?_ <;> intro _ <;> (try (exfalso; first | contradiction | omega))) | (refine JL_guardb xR xR ?_ ?_ <;> (intro hgb; subst hgb)) | (refine JL_guardb xR xR ?_ ?_ <;> (intro hgb; fail_if_success (have : type_of% hgb := rfl))) | fail)) | fail)) | ((with_reducible apply gD); (first | (refine JD_nil ?_; try simp only [List.cons_append, List.nil_append]) | (refine JD_bar ?_; try simp only [List.cons_append, List.nil_append]) | refine yD ?_ | ((with_reducible apply gD_go); (first | (refine JD_goq (hck) (hφ := (by (try simp only [List.cons_append, List.nil_append]); exact fun w hr => hK w hr.1)) (h := ?_); rintro _ _ ⟨rfl, rfl⟩; try simp only [List.cons_append, List.nil_append]) | (refine JD_goq (hpp) (hφ := (by (try simp only [List.cons_append, List.nil_append]); exact fun w hr => (hK w hr.1).path)) (h := ?_); rintro _ _ ⟨a1, c1, rfl, rfl⟩; try simp only [List.cons_append, List.nil_append]) | fail)) | (refine yE ?_; intro _) | fail)) | refine yJ ?_ | ((with_reducible apply gJ_if); (first | (refine J_if xR ?_ ?_ <;> intro _ <;> (try (exfalso; first | contradiction | omega))) | (refine J_ifb xR ?_ ?_ <;> (intro hgb; subst hgb)) | (refine J_ifb xR ?_ ?_ <;> intro _) | fail)) | refine J_draw (id := 14) [0, 1, 2, 4, 5, 3, 6, 7] [8] mixed xC xD xD ?_ | fail))
    rename_i b0 wb _ _
    refine JL_heap (fun w H => wrShut (l := []) (Ow.arNil (e := 5) (sz := 1) (enc := byC) H) xZ rfl) ?_
    (repeat' (first | ((with_reducible apply gL); (first | refine yL0 ?_ | refine yL ?_ | ((with_reducible apply gL_go); (first | (refine JL_goq (usual_e wb [] l1 1 _ 1 [⟨some ⟨_, 0, none⟩, 1, [d.origin]⟩] [d.origin] rfl hl1 (by decide) (by decide) (by simp) (by simp) (by simp)) (hφ := (by (try simp only [List.cons_append, List.nil_append]); exact fun w hr => partsL (n := 1) hr xA xA (.cons .nil) rfl rfl)) (h := ?_); rintro _ _ rfl; try simp only [List.cons_append, List.nil_append]) | (refine JL_goq (usual_e wb l1 l2 2 _ 1 [⟨a1, c1, Pb⟩] Pb (by simp [catB]) hl2 (by decide) (by decide) (by simp) (by omega) (by omega)) (hφ := (by (try simp only [List.cons_append, List.nil_append]); exact fun w hr => parts1 (n := Pb.length) hr xA xA rfl)) (h := ?_); rintro _ _ rfl; try simp only [List.cons_append, List.nil_append]) | (refine JL_goq (num_s d.next hd.num.next) (hφ := xF) (h := ?_); rintro _ _ ⟨b4, rfl, rfl⟩; try simp only [List.cons_append, List.nil_append]) | (refine JL_goq (usual_e wb l2 l3 3 _ 1 [⟨some ⟨b4, 0, none⟩, 4, num4 d.next⟩] (num4 d.next) (by simp [catB]) hl3 (by decide) (by decide) (by simp) (by simp [num4]) (by omega)) (hφ := (by (try simp only [List.cons_append, List.nil_append]); exact fun w hr => parts1 (n := 4) hr xA xA rfl)) (h := ?_); rintro _ _ rfl; try simp only [List.cons_append, List.nil_append]) | (refine JL_goq (perhaps_e wb l3 l4 d hd hl4 (by omega)) (hφ := (by (try simp only [List.cons_append, List.nil_append]); exact fun w hr => hK w hr.1)) (h := ?_); rintro _ _ rfl; try simp only [List.cons_append, List.nil_append]) | fail)) | (refine yM ?_; intro _) | ((with_reducible apply gL_gd); (first | (refine JL_guard xR xR ?_ ?_ <;> intro _ <;> (try (exfalso; first | contradiction | omega))) | (refine JL_guardb xR xR ?_ ?_ <;> (intro hgb; subst hgb)) | (refine JL_guardb xR xR ?_ ?_ <;> (intro hgb; fail_if_success (have : type_of% hgb := rfl))) | fail)) | fail)) | ((with_reducible apply gD); (first | (refine JD_nil ?_; try simp only [List.cons_append, List.nil_append]) | (refine JD_bar ?_; try simp only [List.cons_append, List.nil_append]) | refine yD ?_ | ((with_reducible apply gD_go); (first | (refine JD_goq (usual_e wb [] l1 1 _ 1 [⟨some ⟨_, 0, none⟩, 1, [d.origin]⟩] [d.origin] rfl hl1 (by decide) (by decide) (by simp) (by simp) (by simp)) (hφ := (by (try simp only [List.cons_append, List.nil_append]); exact fun w hr => partsL (n := 1) hr xA xA (.cons .nil) rfl rfl)) (h := ?_); rintro _ _ rfl; try simp only [List.cons_append, List.nil_append]) | (refine JD_goq (usual_e wb l1 l2 2 _ 1 [⟨a1, c1, Pb⟩] Pb (by simp [catB]) hl2 (by decide) (by decide) (by simp) (by omega) (by omega)) (hφ := (by (try simp only [List.cons_append, List.nil_append]); exact fun w hr => parts1 (n := Pb.length) hr xA xA rfl)) (h := ?_); rintro _ _ rfl; try simp only [List.cons_append, List.nil_append]) | (refine JD_goq (num_s d.next hd.num.next) (hφ := xF) (h := ?_); rintro _ _ ⟨b4, rfl, rfl⟩; try simp only [List.cons_append, List.nil_append]) | (refine JD_goq (usual_e wb l2 l3 3 _ 1 [⟨some ⟨b4, 0, none⟩, 4, num4 d.next⟩] (num4 d.next) (by simp [catB]) hl3 (by decide) (by decide) (by simp) (by simp [num4]) (by omega)) (hφ := (by (try simp only [List.cons_append, List.nil_append]); exact fun w hr => parts1 (n := 4) hr xA xA rfl)) (h := ?_); rintro _ _ rfl; try simp only [List.cons_append, List.nil_append]) | (refine JD_goq (perhaps_e wb l3 l4 d hd hl4 (by omega)) (hφ := (by (try simp only [List.cons_append, List.nil_append]); exact fun w hr => hK w hr.1)) (h := ?_); rintro _ _ rfl; try simp only [List.cons_append, List.nil_append]) | fail)) | (refine yE ?_; intro _) | fail)) | refine yJ ?_ | ((with_reducible apply gJ_if); (first | (refine J_if xR ?_ ?_ <;> intro _ <;> (try (exfalso; first | contradiction | omega))) | (refine J_ifb xR ?_ ?_ <;> (intro hgb; subst hgb)) | (refine J_ifb xR ?_ ?_ <;> intro _) | fail)) | refine J_draw (id := 14) [0, 1, 2, 4, 5, 3, 6, 7] [8] mixed xC xD xD ?_ | fail))
    refine J_loop (α := Nat) 0 (fun x => d.others.length - x) (fun x => x ≤ d.others.length) (fun x => [(7, .pointer (some ⟨wb, 0, none⟩)), (85, .slice d.oa d.others.length d.oc), (86, .int .i64 d.others.length), (87, .int .i64 x)]) (fun x => [wrO wb (l4 ++ tlsB ((oN (d.others.take x)).map oT))]) (Nat.zero_le _) ⟨rfl, rfl, rfl, rfl, trivial⟩ (fun w H => by simp only [List.take_zero, oN, List.map_nil, tlsB, List.flatMap_nil, List.append_nil]; exact H.sel xZ) ?_
    intro k hk
    have hlk : ∀ j, (l4 ++ tlsB ((oN (d.others.take j)).map oT)).length ≤ 10000 := by
      intro j
      have h1 := oT_len (oN (d.others.take j)) (fun o ho => (hall o (by
        obtain ⟨r, hr, rfl⟩ := List.mem_map.1 ho
        exact List.mem_map.2 ⟨r, List.take_subset _ _ hr, rfl⟩)).2.2.2)
      have h2 : (oN (d.others.take j)).length ≤ 9 := by simp only [oN, List.length_map, List.length_take]; omega
      rw [List.length_append]
      omega
    obtain ⟨lk, hlke⟩ : ∃ lk, l4 ++ tlsB ((oN (d.others.take k)).map oT) = lk := ⟨_, rfl⟩
    have hlk1 := hlk k
    rw [hlke] at hlk1 ⊢
    by_cases hlt : k < d.others.length
    · obtain ⟨s, hs⟩ : ∃ s, d.others[k]? = some s := ⟨_, List.getElem?_eq_getElem hlt⟩
      have hm := List.mem_of_getElem? hs
      have hsn1 := (hd.num.others s hm).2.1
      obtain ⟨hk1, hk2, _, hk3⟩ := hall (s.kind, s.data) (List.mem_map.2 ⟨s, hm, rfl⟩)
      dsimp only at hk1 hk2 hk3
      have hu : Kn K (fun w => Vw w (.slice s.a s.data.length s.c) 1 s.data.length (flat byC s.data)) := hK.imp fun _ h => h.others.raws s hm
      have he : lk ++ putB 224 s.kind s.data = l4 ++ tlsB ((oN (d.others.take (k + 1))).map oT) := by
        rw [← hlke, take_snoc hs]
        simp [oN, tlsB, tlB, oT]
      (repeat' (first | ((with_reducible apply gL); (first | refine yL0 ?_ | refine yL ?_ | ((with_reducible apply gL_go); (first | (refine JL_goq (put_e wb lk _ 224 s.kind _ 1 [⟨s.a, s.c, s.data⟩] s.data (by simp [catB]) he (by omega) (by simp) (by omega) (by omega)) (hφ := (by (try simp only [List.cons_append, List.nil_append]); exact fun w hr => partsK (n := s.data.length) hr xA (hu w hr.1) rfl)) (h := ?_); rintro _ _ rfl; try simp only [List.cons_append, List.nil_append]) | fail)) | (refine yM ?_; intro _) | ((with_reducible apply gL_gd); (first | (refine JL_guard xR xR ?_ ?_ <;> intro _ <;> (try (exfalso; first | contradiction | omega))) | (refine JL_guardb xR xR ?_ ?_ <;> (intro hgb; subst hgb)) | (refine JL_guardb xR xR ?_ ?_ <;> (intro hgb; fail_if_success (have : type_of% hgb := rfl))) | fail)) | fail)) | ((with_reducible apply gD); (first | (refine JD_nil ?_; try simp only [List.cons_append, List.nil_append]) | (refine JD_bar ?_; try simp only [List.cons_append, List.nil_append]) | refine yD ?_ | ((with_reducible apply gD_go); (first | (refine JD_goq (put_e wb lk _ 224 s.kind _ 1 [⟨s.a, s.c, s.data⟩] s.data (by simp [catB]) he (by omega) (by simp) (by omega) (by omega)) (hφ := (by (try simp only [List.cons_append, List.nil_append]); exact fun w hr => partsK (n := s.data.length) hr xA (hu w hr.1) rfl)) (h := ?_); rintro _ _ rfl; try simp only [List.cons_append, List.nil_append]) | fail)) | (refine yE ?_; intro _) | fail)) | refine yJ ?_ | ((with_reducible apply gJ_if); (first | (refine J_if xR ?_ ?_ <;> intro _ <;> (try (exfalso; first | contradiction | omega))) | (refine J_ifb xR ?_ ?_ <;> (intro hgb; subst hgb)) | (refine J_ifb xR ?_ ?_ <;> intro _) | fail)) | refine J_draw (id := 14) [0, 1, 2, 4, 5, 3, 6, 7] [8] mixed xC xD xD ?_ | fail))
      exact J_again (k + 1) (by omega) (by omega) ⟨rfl, rfl, rfl, rfl, trivial⟩ (fun w H => H.sel xZ)
    · have hke : k = d.others.length := by omega
      have hl : lk = attrB d.nf := by
        rw [← hlke, hke, List.take_length, ← hl4, ← hl3, ← hl2, ← hl1, ← hPb]
        unfold attrB attrT
        simp only [tlsB_append, List.append_assoc]
        simp [tlsB, tlB, fl, At.nf]
      refine J_open (fun w H => wrOpen H .here) ?_
      rintro ⟨ad, cc⟩
      dsimp only
      (repeat' (first | ((with_reducible apply gL); (first | refine yL0 ?_ | refine yL ?_ | (refine yM ?_; intro _) | ((with_reducible apply gL_gd); (first | (refine JL_guard xR xR ?_ ?_ <;> intro _ <;> (try (exfalso; first | contradiction | omega))) | (refine JL_guardb xR xR ?_ ?_ <;> (intro hgb; subst hgb)) | (refine JL_guardb xR xR ?_ ?_ <;> (intro hgb; fail_if_success (have : type_of% hgb := rfl))) | fail)) | fail)) | ((with_reducible apply gD); (first | (refine JD_nil ?_; try simp only [List.cons_append, List.nil_append]) | (refine JD_bar ?_; try simp only [List.cons_append, List.nil_append]) | refine yD ?_ | (refine yE ?_; intro _) | fail)) | refine yJ ?_ | ((with_reducible apply gJ_if); (first | (refine J_if xR ?_ ?_ <;> intro _ <;> (try (exfalso; first | contradiction | omega))) | (refine J_ifb xR ?_ ?_ <;> (intro hgb; subst hgb)) | (refine J_ifb xR ?_ ?_ <;> intro _) | fail)) | refine J_draw (id := 14) [0, 1, 2, 4, 5, 3, 6, 7] [8] mixed xC xD xD ?_ | fail))
      exact J_ret2 rfl (by rfl) (by rfl) fun w H => ⟨_, ⟨ad, cc, lk, by rw [hok]; rfl, fun _ => hl, by omega, rfl⟩, H.sel xZ⟩
/-- The key: the bytes, and the local preference. -/
def locB (x : Nf) : List Int := match x.loc with | none => [0] | some n => num4 n ++ [1]
def keyB (x : Nf) : List Int := attrB x ++ locB x
theorem locB_t {d : At} (h : d.hasLocal = true) : locB d.nf = num4 d.loc ++ [1] := by simp [locB, At.nf, h]
theorem locB_f {d : At} (h : d.hasLocal = false) : locB d.nf = [0] := by simp [locB, At.nf, h]
theorem keyOf_s (d : At) (hd : AtF d) : Pact Tryz.prog 72 #[.agg (atC d).toArray] (fun w => AtV w d) [] (fun u L' => ∃ k, u = .tuple #[.string k, .int .i64 (er (okN d.nf))] ∧ (okN d.nf = true → k = strOfNums (keyB d.nf)) ∧ L' = []) := by
  refine pact Tryz.func72 rfl Tryz.ntmps72 rfl ?_
  intro W K hK
  obtain ⟨hc0, hc1⟩ := hd.num.loc
  (repeat' (first | ((with_reducible apply gL); (first | refine yL0 ?_ | ((with_reducible apply gL_c_append); (first | (refine JL_apN (tabE etab_ok xR) xR xR xA xA (by first | exact .cons (.cons (.cons (.cons (.cons .nil)))) | exact .cons .nil) rfl rfl xC (by omega) xR xR ?_; intro ad4 cc4 _ _) | fail)) | ((with_reducible apply gL_convert); (first | (refine JL_p rfl xR xR (pe_str xR xC xC (Src.ar xA)) ?_) | fail)) | refine yL ?_ | ((with_reducible apply gL_go); (first | (refine JL_goq (Put_s d hd) (hφ := (by (try simp only [List.cons_append, List.nil_append]); exact fun w hr => hK w hr.1)) (h := ?_); rintro _ _ ⟨a1, c1, l, rfl, hl, hl2, rfl⟩; try simp only [List.cons_append, List.nil_append]) | fail)) | (refine yM ?_; intro _) | (refine yA ?_; intro _ _ _ _) | fail)) | refine yJ ?_ | ((with_reducible apply gJ_if); (first | (refine J_if xR ?_ ?_ <;> intro _ <;> (try (exfalso; first | contradiction | omega))) | (refine J_ifb xR ?_ ?_ <;> (intro hgb; subst hgb)) | (refine J_ifb xR ?_ ?_ <;> intro _) | fail)) | fail))
  · rename_i hb _ _ _
    refine J_ret2 rfl (by rfl) (by rfl) fun w H => ⟨_, ⟨_, rfl, fun h => ?_, rfl⟩, H.sel .nil⟩
    rw [hl h]
    unfold keyB
    rw [locB_t hb]
    rfl
  · rename_i hb _ _ _
    refine J_ret2 rfl (by rfl) (by rfl) fun w H => ⟨_, ⟨_, rfl, fun h => ?_, rfl⟩, H.sel .nil⟩
    rw [hl h]
    unfold keyB
    rw [locB_f hb]
end Go.Proofs.YtnhabkipjmgaaaaGreat
namespace Go.Proofs.YtnhabkipjmgaaaaGreat
set_option linter.unusedSimpArgs false
set_option linter.unusedVariables false
open Go.RowKit Go.Pm

structure NfN (x : Nf) : Prop where
  next : U32 x.next
  med : ∀ m, x.med = some m → U32 m
  loc : ∀ m, x.loc = some m → U32 m
  maker : ∀ m, x.maker = some m → U32 m.1 ∧ U32 m.2
  path : ∀ s ∈ x.path, ∀ z ∈ s.2, U32 z
  comms : ∀ z ∈ x.comms, U32 z
  others : ∀ o ∈ x.others, ∀ z ∈ o.2, U8 z
theorem At.nfN {d : At} (h : AtN d) : NfN d.nf := by
  refine ⟨h.next, fun m hm => ?_, fun m hm => ?_, fun m hm => ?_, fun s hs z hz => ?_, h.comms, fun o ho z hz => ?_⟩
  · unfold At.nf at hm; dsimp only at hm; split at hm <;> cases hm; exact h.med
  · unfold At.nf at hm; dsimp only at hm; split at hm <;> cases hm; exact h.loc
  · unfold At.nf at hm; dsimp only at hm; split at hm <;> cases hm; exact ⟨h.makerAS, h.maker⟩
  · obtain ⟨t, ht, rfl⟩ := List.mem_map.1 hs
    exact (h.path t ht).2 z hz
  · obtain ⟨t, ht, rfl⟩ := List.mem_map.1 ho
    exact (h.others t ht).2.2 z hz
theorem num4_inj {n m : Int} (hn : U32 n) (hm : U32 m) (h : num4 n = num4 m) : n = m := by
  obtain ⟨_, _⟩ := hn
  obtain ⟨_, _⟩ := hm
  simp only [num4, List.cons.injEq] at h
  omega
theorem asB_inj : ∀ {l m : List Int}, (∀ z ∈ l, U32 z) → (∀ z ∈ m, U32 z) → asB l = asB m → l = m
  | [], [], _, _, _ => rfl
  | [], y :: m, _, _, h => by
    have := congrArg List.length h
    rw [asB_len, asB_len] at this
    simp at this
  | x :: l, [], _, _, h => by
    have := congrArg List.length h
    rw [asB_len, asB_len] at this
    simp at this
  | x :: l, y :: m, h1, h2, h => by
    have e : num4 x ++ asB l = num4 y ++ asB m := h
    obtain ⟨e1, e2⟩ := List.append_inj e rfl
    rw [num4_inj (h1 x (List.mem_cons_self ..)) (h2 y (List.mem_cons_self ..)) e1, asB_inj (fun z hz => h1 z (List.mem_cons_of_mem _ hz)) (fun z hz => h2 z (List.mem_cons_of_mem _ hz)) e2]
theorem kd_inj {a b : Bool} (h : kd a = kd b) : a = b := by
  cases a <;> cases b <;> first | rfl | (exact absurd h (by decide))
theorem pB_inj : ∀ {p q : List (Bool × List Int)}, (∀ s ∈ p, ∀ z ∈ s.2, U32 z) → (∀ s ∈ q, ∀ z ∈ s.2, U32 z) → pB p = pB q → p = q
  | [], [], _, _, _ => rfl
  | [], t :: q, _, _, h => by
    have := congrArg List.length h
    rw [pB_len, pB_len] at this
    simp only [tot, List.length_cons, List.length_nil] at this
    omega
  | s :: p, [], _, _, h => by
    have := congrArg List.length h
    rw [pB_len, pB_len] at this
    simp [tot] at this
  | s :: p, t :: q, h1, h2, h => by
    have e : kd s.1 :: (s.2.length : Int) :: (asB s.2 ++ pB p) = kd t.1 :: (t.2.length : Int) :: (asB t.2 ++ pB q) := h
    simp only [List.cons.injEq] at e
    obtain ⟨e1, e2, e3⟩ := e
    obtain ⟨e4, e5⟩ := List.append_inj e3 (by rw [asB_len, asB_len]; omega)
    have e6 := asB_inj (h1 s (List.mem_cons_self ..)) (h2 t (List.mem_cons_self ..)) e4
    rw [pB_inj (fun z hz => h1 z (List.mem_cons_of_mem _ hz)) (fun z hz => h2 z (List.mem_cons_of_mem _ hz)) e5]
    congr 1
    exact Prod.ext (kd_inj e1) e6
/-- What may be put. -/
structure VT (t : Tl) : Prop where
  f : t.1 = 64 ∨ t.1 = 128 ∨ t.1 = 192 ∨ t.1 = 224
  k : 0 ≤ t.2.1 ∧ t.2.1 ≤ 255
  n : t.2.2.length ≤ 65535
  d : ∀ z ∈ t.2.2, U8 z
theorem orF_v : orF 64 = 80 ∧ orF 128 = 144 ∧ orF 192 = 208 ∧ orF 224 = 240 := by decide
theorem VT.or {t : Tl} (h : VT t) : orF t.1 = t.1 + 16 := by
  obtain ⟨h1, h2, h3, h4⟩ := orF_v
  rcases h.f with e | e | e | e <;> rw [e] <;> assumption
theorem tlB_inj {t u : Tl} {r r' : List Int} (ht : VT t) (hu : VT u) (h : tlB t ++ r = tlB u ++ r') : t = u ∧ r = r' := by
  obtain ⟨f, k, d⟩ := t
  obtain ⟨f', k', d'⟩ := u
  have hn := ht.n
  have hn' := hu.n
  have hf := ht.f
  have hf' := hu.f
  have ho := ht.or
  have ho' := hu.or
  dsimp only at hn hn' hf hf' ho ho'
  unfold tlB putB at h
  dsimp only at h
  rw [ho, ho'] at h
  split at h <;> split at h
  · simp only [List.cons_append, List.nil_append, List.cons.injEq] at h
    obtain ⟨e1, e2, e3, e4, e5⟩ := h
    obtain ⟨e6, e7⟩ := List.append_inj e5 (by omega)
    refine ⟨?_, e7⟩
    rw [show f = f' by omega, e2, e6]
  · simp only [List.cons_append, List.nil_append, List.cons.injEq] at h
    omega
  · simp only [List.cons_append, List.nil_append, List.cons.injEq] at h
    omega
  · simp only [List.cons_append, List.nil_append, List.cons.injEq] at h
    obtain ⟨e1, e2, e3, e5⟩ := h
    obtain ⟨e6, e7⟩ := List.append_inj e5 (by omega)
    refine ⟨?_, e7⟩
    rw [e1, e2, e6]
theorem tlB_ne (t : Tl) : 0 < (tlB t).length := by
  unfold tlB putB
  split <;> simp
theorem tls_inj : ∀ {l m : List Tl}, (∀ t ∈ l, VT t) → (∀ t ∈ m, VT t) → tlsB l = tlsB m → l = m
  | [], [], _, _, _ => rfl
  | [], u :: m, _, _, h => by
    have e : [] = tlB u ++ tlsB m := h
    have h1 := congrArg List.length e
    have h2 := tlB_ne u
    rw [List.length_append, List.length_nil] at h1
    omega
  | t :: l, [], _, _, h => by
    have e : tlB t ++ tlsB l = [] := h
    have h1 := congrArg List.length e
    have h2 := tlB_ne t
    rw [List.length_append, List.length_nil] at h1
    omega
  | t :: l, u :: m, h1, h2, h => by
    have e : tlB t ++ tlsB l = tlB u ++ tlsB m := h
    obtain ⟨e1, e2⟩ := tlB_inj (h1 t (List.mem_cons_self ..)) (h2 u (List.mem_cons_self ..)) e
    rw [e1, tls_inj (fun z hz => h1 z (List.mem_cons_of_mem _ hz)) (fun z hz => h2 z (List.mem_cons_of_mem _ hz)) e2]
theorem num4_u8 {n : Int} (h : U32 n) : ∀ z ∈ num4 n, U8 z := by
  obtain ⟨_, _⟩ := h
  intro z hz
  simp only [num4, List.mem_cons, List.not_mem_nil, or_false] at hz
  unfold U8
  omega
theorem asB_u8 {l : List Int} (h : ∀ z ∈ l, U32 z) : ∀ z ∈ asB l, U8 z := by
  intro z hz
  obtain ⟨x, hx, hz⟩ := List.mem_flatMap.1 hz
  exact num4_u8 (h x hx) z hz
theorem pB_u8 {p : List (Bool × List Int)} (hp : ∀ s ∈ p, okS s = true) (h : ∀ s ∈ p, ∀ z ∈ s.2, U32 z) : ∀ z ∈ pB p, U8 z := by
  intro z hz
  obtain ⟨s, hs, hz⟩ := List.mem_flatMap.1 hz
  have h1 := hp s hs
  unfold okS at h1
  have h1 := of_decide_eq_true h1
  unfold segB at hz
  rcases List.mem_cons.1 hz with rfl | hz
  · unfold kd U8
    split <;> omega
  · rcases List.mem_cons.1 hz with rfl | hz
    · unfold U8
      omega
    · exact asB_u8 (h s hs) z hz
open Classical in
theorem okN_of {x : Nf} (h : okN x = true) : OkN x := by
  unfold okN at h
  exact of_decide_eq_true h
theorem midT_f {x : Nf} : ∀ t ∈ medT x ++ atomT x ++ makT x ++ comT x, t.1 = 64 ∨ t.1 = 128 ∨ t.1 = 192 := by
  intro t ht
  simp only [List.mem_append] at ht
  rcases ht with ((ht | ht) | ht) | ht
  · unfold medT at ht; split at ht <;> simp at ht; subst ht; simp
  · unfold atomT at ht; split at ht <;> simp at ht; subst ht; simp
  · unfold makT at ht; split at ht <;> simp at ht; subst ht; simp
  · unfold comT at ht; split at ht <;> simp at ht; subst ht; simp
theorem attrT_vt {x : Nf} (hn : NfN x) (ho : OkN x) : ∀ t ∈ attrT x, VT t := by
  obtain ⟨hos, h64⟩ := (ckP_iff x.path 0 (by omega)).1 ho.path
  intro t ht
  unfold attrT at ht
  rcases List.mem_append.1 ht with ht | ht
  · rcases List.mem_append.1 ht with ht | ht
    · simp only [List.mem_cons, List.not_mem_nil, or_false] at ht
      rcases ht with rfl | rfl | rfl
      · refine ⟨.inl rfl, ⟨by simp, by simp⟩, by simp, ?_⟩
        intro z hz
        obtain rfl := List.mem_singleton.1 hz
        have := ho.origin
        unfold U8
        omega
      · refine ⟨.inl rfl, ⟨by simp, by simp⟩, ?_, pB_u8 hos hn.path⟩
        have h1 := pB_len x.path
        have h2 : x.path.length ≤ tot x.path := by
          have : ∀ (p : List (Bool × List Int)), (∀ s ∈ p, okS s = true) → p.length ≤ tot p := by
            intro p
            induction p with
            | nil => intro _; exact Nat.zero_le _
            | cons s p ih =>
              intro h
              have h3 := ih (fun s hs => h s (List.mem_cons_of_mem _ hs))
              have h4 := h s (List.mem_cons_self ..)
              unfold okS at h4
              have h4 := of_decide_eq_true h4
              simp only [List.length_cons, tot]
              omega
          exact this _ hos
        show (pB x.path).length ≤ 65535
        omega
      · exact ⟨.inl rfl, ⟨by simp, by simp⟩, by simp [num4], num4_u8 hn.next⟩
    · simp only [List.mem_append] at ht
      rcases ht with ((ht | ht) | ht) | ht
      · unfold medT at ht
        split at ht
        · simp at ht
        · rename_i m hm
          obtain rfl := List.mem_singleton.1 ht
          exact ⟨by simp, by simp, by simp [num4], num4_u8 (hn.med m hm)⟩
      · unfold atomT at ht
        split at ht
        · obtain rfl := List.mem_singleton.1 ht
          exact ⟨by simp, by simp, by simp, by simp⟩
        · simp at ht
      · unfold makT at ht
        split at ht
        · simp at ht
        · rename_i m hm
          obtain rfl := List.mem_singleton.1 ht
          refine ⟨by simp, by simp, by simp [num4], fun z hz => ?_⟩
          rcases List.mem_append.1 hz with hz | hz
          · exact num4_u8 (hn.maker m hm).1 z hz
          · exact num4_u8 (hn.maker m hm).2 z hz
      · unfold comT at ht
        split at ht
        · simp at ht
        · obtain rfl := List.mem_singleton.1 ht
          refine ⟨by simp, by simp, ?_, asB_u8 hn.comms⟩
          have := ho.comms
          show (asB x.comms).length ≤ 65535
          rw [asB_len]
          omega
  · obtain ⟨o, ho2, rfl⟩ := List.mem_map.1 ht
    have := ckO_all _ _ ho.others.2 o ho2
    exact ⟨by simp [oT], ⟨by show 0 ≤ o.1; omega, by show o.1 ≤ 255; omega⟩, by show o.2.length ≤ 65535; omega, hn.others o ho2⟩
def isK (k : Int) (t : Tl) : Bool := decide (t.2.1 = k)
theorem mid_k4 (x : Nf) : (medT x ++ atomT x ++ makT x ++ comT x).filter (isK 4) = medT x := by
  unfold medT atomT makT comT isK
  split <;> split <;> split <;> split <;> simp
theorem mid_k6 (x : Nf) : (medT x ++ atomT x ++ makT x ++ comT x).filter (isK 6) = atomT x := by
  unfold medT atomT makT comT isK
  split <;> split <;> split <;> split <;> simp
theorem mid_k7 (x : Nf) : (medT x ++ atomT x ++ makT x ++ comT x).filter (isK 7) = makT x := by
  unfold medT atomT makT comT isK
  split <;> split <;> split <;> split <;> simp
theorem mid_k8 (x : Nf) : (medT x ++ atomT x ++ makT x ++ comT x).filter (isK 8) = comT x := by
  unfold medT atomT makT comT isK
  split <;> split <;> split <;> split <;> simp
theorem app_split {P : Tl → Prop} : ∀ {a b c d : List Tl}, (∀ t ∈ a, P t) → (∀ t ∈ c, P t) → (∀ t ∈ b, ¬ P t) → (∀ t ∈ d, ¬ P t) → a ++ b = c ++ d → a = c ∧ b = d
  | [], b, [], d, _, _, _, _, h => ⟨rfl, h⟩
  | [], b, z :: c, d, _, h2, h3, _, h => by
    have : z ∈ b := by
      have e : b = z :: (c ++ d) := h
      rw [e]; exact List.mem_cons_self ..
    exact absurd (h2 z (List.mem_cons_self ..)) (h3 z this)
  | z :: a, b, [], d, h1, _, _, h4, h => by
    have : z ∈ d := by
      have e : z :: (a ++ b) = d := h
      rw [← e]; exact List.mem_cons_self ..
    exact absurd (h1 z (List.mem_cons_self ..)) (h4 z this)
  | z :: a, b, y :: c, d, h1, h2, h3, h4, h => by
    have e : z :: (a ++ b) = y :: (c ++ d) := h
    simp only [List.cons.injEq] at e
    obtain ⟨e1, e2⟩ := app_split (fun t ht => h1 t (List.mem_cons_of_mem _ ht)) (fun t ht => h2 t (List.mem_cons_of_mem _ ht)) h3 h4 e.2
    rw [e.1, e1, e2]
    exact ⟨rfl, rfl⟩
theorem oT_inj : ∀ {l m : List (Int × List Int)}, l.map oT = m.map oT → l = m
  | [], [], _ => rfl
  | [], _ :: _, h => by simp at h
  | _ :: _, [], h => by simp at h
  | x :: l, y :: m, h => by
    simp only [List.map_cons, List.cons.injEq, oT, Prod.mk.injEq] at h
    rw [oT_inj (l := l) (m := m) h.2]
    congr 1
    exact Prod.ext h.1.2.1 h.1.2.2
theorem attr_inj {x y : Nf} (hx : NfN x) (hy : NfN y) (hl : x.loc = y.loc) (h : attrT x = attrT y) : x = y := by
  have h : ((64 : Int), (1 : Int), [x.origin]) :: (64, 2, pB x.path) :: (64, 3, num4 x.next) :: ((medT x ++ atomT x ++ makT x ++ comT x) ++ x.others.map oT) = (64, 1, [y.origin]) :: (64, 2, pB y.path) :: (64, 3, num4 y.next) :: ((medT y ++ atomT y ++ makT y ++ comT y) ++ y.others.map oT) := h
  simp only [List.cons_append, List.nil_append, List.cons.injEq, Prod.mk.injEq, true_and] at h
  obtain ⟨⟨e1, _⟩, e2, e3, e4⟩ := h
  have e2 := pB_inj hx.path hy.path e2
  have e3 := num4_inj hx.next hy.next e3
  obtain ⟨e5, e6⟩ := app_split (P := fun t => t.1 ≠ 224) (fun t ht => by rcases midT_f t ht with h | h | h <;> rw [h] <;> decide) (fun t ht => by rcases midT_f t ht with h | h | h <;> rw [h] <;> decide) (fun t ht => by obtain ⟨o, _, rfl⟩ := List.mem_map.1 ht; simp [oT]) (fun t ht => by obtain ⟨o, _, rfl⟩ := List.mem_map.1 ht; simp [oT]) e4
  have e6 := oT_inj e6
  have m4 := congrArg (List.filter (isK 4)) e5
  have m6 := congrArg (List.filter (isK 6)) e5
  have m7 := congrArg (List.filter (isK 7)) e5
  have m8 := congrArg (List.filter (isK 8)) e5
  rw [mid_k4, mid_k4] at m4
  rw [mid_k6, mid_k6] at m6
  rw [mid_k7, mid_k7] at m7
  rw [mid_k8, mid_k8] at m8
  have f4 : x.med = y.med := by
    unfold medT at m4
    have h1 := hx.med
    have h2 := hy.med
    rcases a : x.med with _ | a1 <;> rcases b : y.med with _ | b1 <;> rw [a, b] at m4
    · simp at m4
    · simp at m4
    · simp only [List.cons.injEq, Prod.mk.injEq, true_and, and_true] at m4
      rw [num4_inj (h1 _ a) (h2 _ b) m4]
  have f6 : x.atomic = y.atomic := by
    unfold atomT at m6
    rcases a : x.atomic <;> rcases b : y.atomic <;> rw [a, b] at m6 <;> simp at m6 ⊢
  have f7 : x.maker = y.maker := by
    unfold makT at m7
    have h1 := hx.maker
    have h2 := hy.maker
    rcases a : x.maker with _ | a1 <;> rcases b : y.maker with _ | b1 <;> rw [a, b] at m7
    · simp at m7
    · simp at m7
    · simp only [List.cons.injEq, Prod.mk.injEq, true_and, and_true] at m7
      obtain ⟨g1, g2⟩ := List.append_inj m7 rfl
      congr 1
      exact Prod.ext (num4_inj (h1 _ a).1 (h2 _ b).1 g1) (num4_inj (h1 _ a).2 (h2 _ b).2 g2)
  have f8 : x.comms = y.comms := by
    unfold comT at m8
    split at m8 <;> split at m8
    · rw [List.eq_nil_of_length_eq_zero (by assumption : x.comms.length = 0), List.eq_nil_of_length_eq_zero (by assumption : y.comms.length = 0)]
    · simp at m8
    · simp at m8
    · simp only [List.cons.injEq, Prod.mk.injEq, true_and, and_true] at m8
      exact asB_inj hx.comms hy.comms m8
  obtain ⟨a1, a2, a3, a4, a5, a6, a7, a8, a9⟩ := x
  obtain ⟨b1, b2, b3, b4, b5, b6, b7, b8, b9⟩ := y
  simp_all
theorem locB_u8 {x : Nf} (h : NfN x) : ∀ z ∈ locB x, U8 z := by
  intro z hz
  unfold locB at hz
  split at hz
  · obtain rfl := List.mem_singleton.1 hz
    unfold U8; omega
  · rename_i n hn
    rcases List.mem_append.1 hz with hz | hz
    · exact num4_u8 (h.loc n hn) z hz
    · obtain rfl := List.mem_singleton.1 hz
      unfold U8; omega
theorem tlB_u8 {t : Tl} (h : VT t) : ∀ z ∈ tlB t, U8 z := by
  intro z hz
  unfold tlB putB at hz
  have hf := h.f
  have ho := h.or
  have hk := h.k
  have hn := h.n
  rcases List.mem_append.1 hz with hz | hz
  · split at hz
    · simp only [List.mem_cons, List.not_mem_nil, or_false] at hz
      rw [ho] at hz
      unfold U8
      omega
    · simp only [List.mem_cons, List.not_mem_nil, or_false] at hz
      unfold U8
      omega
  · exact h.d z hz
theorem keyB_u8 {x : Nf} (hn : NfN x) (ho : okN x = true) : ∀ z ∈ keyB x, U8 z := by
  intro z hz
  unfold keyB at hz
  rcases List.mem_append.1 hz with hz | hz
  · obtain ⟨t, ht, hz⟩ := List.mem_flatMap.1 hz
    exact tlB_u8 (attrT_vt hn (okN_of ho) t ht) z hz
  · exact locB_u8 hn z hz
theorem key_inj {x y : Nf} (hx : NfN x) (hy : NfN y) (ox : okN x = true) (oy : okN y = true) (h : keyB x = keyB y) : x = y := by
  unfold keyB at h
  have hl : x.loc = y.loc ∧ attrB x = attrB y := by
    have g := congrArg List.getLast? h
    have h1 := hx.loc
    have h2 := hy.loc
    unfold locB at h g
    rcases a : x.loc with _ | a1 <;> rcases b : y.loc with _ | b1 <;> rw [a, b] at h g
    · exact ⟨rfl, (List.append_inj' h rfl).1⟩
    · rw [← List.append_assoc, List.getLast?_concat, List.getLast?_concat] at g
      simp at g
    · rw [← List.append_assoc, List.getLast?_concat, List.getLast?_concat] at g
      simp at g
    · obtain ⟨g1, g2⟩ := List.append_inj' h rfl
      obtain ⟨g3, _⟩ := List.append_inj g2 rfl
      exact ⟨by rw [num4_inj (h1 _ a) (h2 _ b) g3], g1⟩
  exact attr_inj hx hy hl.1 (tls_inj (attrT_vt hx (okN_of ox)) (attrT_vt hy (okN_of oy)) hl.2)
def keyS (x : Nf) : ByteArray := strOfNums (keyB x)
theorem keyS_inj {x y : Nf} (hx : NfN x) (hy : NfN y) (ox : okN x = true) (oy : okN y = true) (h : keyS x = keyS y) : x = y :=
  key_inj hx hy ox oy (strOf_inj (keyB_u8 hx ox) (keyB_u8 hy oy) h)
end Go.Proofs.YtnhabkipjmgaaaaGreat
namespace Go.Proofs.YtnhabkipjmgaaaaGreat
set_option linter.unusedSimpArgs false
set_option linter.unusedVariables false
set_option maxRecDepth 20000
set_option maxHeartbeats 4000000
open Go.RowKit Go.Pm

/-- What is kept: by a number, so often. -/
structure En where
  id : Int
  n : Int
  x : Nf
/-- The same in memory. -/
structure Me where
  b : Nat
  d : At
  e : En
abbrev enC (d : At) (k : ByteArray) (n : Int) : List Value := [.int .i64 d.origin, .slice d.pa d.path.length d.pc, .int .u32 d.next, .bool d.hasMed, .int .u32 d.med, .bool d.hasLocal, .int .u32 d.loc, .bool d.atomic, .bool d.hasMaker, .int .u32 d.makerAS, .int .u32 d.maker, .slice d.ca d.comms.length d.cc, .slice d.oa d.others.length d.oc, .string k, .int .i64 n]
def meP (m : Me) : HP := sats [pts m.b (enC m.d (keyS m.e.x) m.e.n) 114, has (fun w => AtV w m.d)]
theorem meOpen {W : World} {K : Hl} {L R : List HP} {w : World} {m : Me} (H : Ow W K L w) (t : Tk L (meP m) R) : Ow W K (pts m.b (enC m.d (keyS m.e.x) m.e.n) 114 :: has (fun w => AtV w m.d) :: R) w := H.flat t
theorem meShut {W : World} {K : Hl} {L R : List HP} {w : World} {m : Me} (H : Ow W K L w) (t : Sb L [pts m.b (enC m.d (keyS m.e.x) m.e.n) 114, has (fun w => AtV w m.d)] R) : Ow W K (meP m :: R) w := H.unflat t
def byL (M : List Me) : List (ByteArray × Value) := M.map fun m => (keyS m.e.x, Value.int .i64 m.e.id)
def idL (M : List Me) : List (Int × Value) := M.map fun m => (m.e.id, Value.pointer (some ⟨m.b, 0, none⟩))
abbrev stC (mb lb : Nat) (c : Int) : List Value := [.map (some mb), .map (some lb), .int .i64 c]
abbrev mqS := mq Value.string
abbrev mqI := mq (Value.int .i64)
structure MOk (M : List Me) (S : List En) : Prop where
  e : M.map (·.e) = S
  d : ∀ m ∈ M, AtF m.d ∧ m.d.nf = m.e.x
def stoA (sp : Nat) (S : List En) (c : Int) : HP := fun h => ∃ (mb lb : Nat) (M : List Me), MOk M S ∧ sats [pts sp (stC mb lb c) 76, mqS mb (byL M), mqI lb (idL M), sats (M.map meP)] h
structure Mx where
  mb : Nat
  lb : Nat
  M : List Me
theorem stoOpen {W : World} {K : Hl} {L R : List HP} {w : World} {sp : Nat} {S : List En} {c : Int} (H : Ow W K L w) (t : Tk L (stoA sp S c) R) : ∃ x : {x : Mx // MOk x.M S}, Ow W K (pts sp (stC x.1.mb x.1.lb c) 76 :: mqS x.1.mb (byL x.1.M) :: mqI x.1.lb (idL x.1.M) :: sats (x.1.M.map meP) :: R) w :=
  H.open t (Bs := fun x : {x : Mx // MOk x.M S} => [pts sp (stC x.1.mb x.1.lb c) 76, mqS x.1.mb (byL x.1.M), mqI x.1.lb (idL x.1.M), sats (x.1.M.map meP)]) (fun k ⟨mb, lb, M, hM, h⟩ => ⟨⟨⟨mb, lb, M⟩, hM⟩, h⟩)
theorem stoShut {W : World} {K : Hl} {L R : List HP} {w : World} {sp mb lb : Nat} {M : List Me} {S : List En} {c : Int} (hM : MOk M S) (H : Ow W K L w) (t : Sb L [pts sp (stC mb lb c) 76, mqS mb (byL M), mqI lb (idL M), sats (M.map meP)] R) : Ow W K (stoA sp S c :: R) w :=
  H.shut t (fun k hk => ⟨mb, lb, M, hM, hk⟩)
theorem mi_s : MI Tryz.prog 73 Value.string (.int .i64 0) := mi_of Tryz.underlying73 (keyOkS Tryz.underlying9) (by kernel_rfl)
theorem mi_i : MI Tryz.prog 74 (Value.int .i64) (.pointer none) := mi_of Tryz.underlying74 (keyOkI Tryz.underlying3) (by kernel_rfl)
theorem is_s (sp : Nat) (lb : Nat) (x : Value) (c : Int) : Pact Tryz.prog 62 #[.pointer (some ⟨sp, 0, none⟩)] (fun _ => True) [pts sp [x, .map (some lb), .int .i64 c] 76] (fun u L' => u = .bool true ∧ L' = [pts sp [x, .map (some lb), .int .i64 c] 76]) := by
  refine pact Tryz.func62 rfl Tryz.ntmps62 rfl ?_
  intro W K _
  (repeat' (first | ((with_reducible apply gL); (first | refine yL0 ?_ | ((with_reducible apply gL_bin_neq); (first | (refine JL_p rfl xR xR (pe_neM xR xR xC) ?_) | fail)) | refine yL ?_ | ((with_reducible apply gL_gd); (first | (refine JL_guard xR xR ?_ ?_ <;> intro _ <;> (try (exfalso; first | contradiction | omega))) | (refine JL_guardb xR xR ?_ ?_ <;> (intro hgb; subst hgb)) | (refine JL_guardb xR xR ?_ ?_ <;> (intro hgb; fail_if_success (have : type_of% hgb := rfl))) | fail)) | fail)) | refine yJ ?_ | fail))
  exact J_ret1 rfl (by rfl) fun w H => ⟨_, ⟨rfl, rfl⟩, H.sel xZ⟩
theorem isvoid_s (sp : Nat) (x : Value) (c : Int) : Pact Tryz.prog 62 #[.pointer (some ⟨sp, 0, none⟩)] (fun _ => True) [pts sp [x, .map none, .int .i64 c] 76] (fun u L' => u = .bool false ∧ L' = [pts sp [x, .map none, .int .i64 c] 76]) := by
  refine pact Tryz.func62 rfl Tryz.ntmps62 rfl ?_
  intro W K _
  (repeat' (first | ((with_reducible apply gL); (first | refine yL0 ?_ | ((with_reducible apply gL_bin_neq); (first | (refine JL_p rfl xR xR (pe_neM xR xR xC) ?_) | fail)) | refine yL ?_ | ((with_reducible apply gL_gd); (first | (refine JL_guard xR xR ?_ ?_ <;> intro _ <;> (try (exfalso; first | contradiction | omega))) | (refine JL_guardb xR xR ?_ ?_ <;> (intro hgb; subst hgb)) | (refine JL_guardb xR xR ?_ ?_ <;> (intro hgb; fail_if_success (have : type_of% hgb := rfl))) | fail)) | fail)) | refine yJ ?_ | fail))
  exact J_ret1 rfl (by rfl) fun w H => ⟨_, ⟨rfl, rfl⟩, H.sel xZ⟩
theorem isnil_s : Pact Tryz.prog 62 #[.pointer none] (fun _ => True) [] (ret0 (.bool false)) := by
  refine pact Tryz.func62 rfl Tryz.ntmps62 rfl ?_
  intro W K _
  (repeat' (first | ((with_reducible apply gL); (first | refine yL0 ?_ | refine yL ?_ | ((with_reducible apply gL_gd); (first | (refine JL_guard xR xR ?_ ?_ <;> intro _ <;> (try (exfalso; first | contradiction | omega))) | (refine JL_guardb xR xR ?_ ?_ <;> (intro hgb; subst hgb)) | (refine JL_guardb xR xR ?_ ?_ <;> (intro hgb; fail_if_success (have : type_of% hgb := rfl))) | fail)) | fail)) | refine yJ ?_ | fail))
  exact J_ret1 rfl (by rfl) fun w H => ⟨_, ⟨rfl, rfl⟩, H.sel .nil⟩
theorem find_hit (sp mb lb : Nat) (c id : Int) (A B : List Me) (m : Me) (hid : m.e.id = id) (hA : ∀ a ∈ A, a.e.id ≠ id) : Pact Tryz.prog 61 #[.pointer (some ⟨sp, 0, none⟩), .int .i64 id] (fun _ => True) [pts sp (stC mb lb c) 76, mqI lb (idL (A ++ m :: B))] (fun u L' => u = .tuple #[.pointer (some ⟨m.b, 0, none⟩), .int .i64 0] ∧ L' = [pts sp (stC mb lb c) 76, mqI lb (idL (A ++ m :: B))]) := by
  refine pact Tryz.func61 rfl Tryz.ntmps61 rfl ?_
  intro W K _
  have hg : lookV (aG (idL (A ++ m :: B)) id) (.pointer none) false = .pointer (some ⟨m.b, 0, none⟩) := by
    unfold idL
    rw [List.map_append, List.map_cons, hid, aG_mid]
    · rfl
    · intro p hp
      obtain ⟨a, ha, rfl⟩ := List.mem_map.1 hp
      exact hA a ha
  (repeat' (first | ((with_reducible apply gL); (first | refine yL0 ?_ | ((with_reducible apply gL_lookup); (first | (refine JL_p rfl xR xR (pe_lookG mi_i xR xR xA hg) ?_) | fail)) | refine yL ?_ | ((with_reducible apply gL_go); (first | (refine JL_goq (is_s sp lb (.map (some mb)) c) (hφ := xF) (h := ?_); rintro _ _ ⟨rfl, rfl⟩; try simp only [List.cons_append, List.nil_append]) | fail)) | ((with_reducible apply gL_lookup); (first | refine JL_p rfl xR xR (pe_lookup xR xR (tabM mtab_ok xR) xT (by first | apply hlook | apply hlook2 | rfl)) ?_ | refine JL_p rfl xR xR (pe_lookupK xR xR (tabM mtab_ok xR) xH (by first | apply hlook | apply hlook2 | rfl)) ?_ | fail)) | fail)) | refine yJ ?_ | ((with_reducible apply gJ_if); (first | (refine J_if xR ?_ ?_ <;> intro _ <;> (try (exfalso; first | contradiction | omega))) | (refine J_ifb xR ?_ ?_ <;> (intro hgb; subst hgb)) | (refine J_ifb xR ?_ ?_ <;> intro _) | fail)) | fail))
  exact J_ret2 rfl (by rfl) (by rfl) fun w H => ⟨_, ⟨rfl, rfl⟩, H.sel xZ⟩
theorem find_miss (sp mb lb : Nat) (c id : Int) (M : List Me) (hA : ∀ a ∈ M, a.e.id ≠ id) : Pact Tryz.prog 61 #[.pointer (some ⟨sp, 0, none⟩), .int .i64 id] (fun _ => True) [pts sp (stC mb lb c) 76, mqI lb (idL M)] (fun u L' => u = .tuple #[.pointer none, .int .i64 5] ∧ L' = [pts sp (stC mb lb c) 76, mqI lb (idL M)]) := by
  refine pact Tryz.func61 rfl Tryz.ntmps61 rfl ?_
  intro W K _
  have hg : lookV (aG (idL M) id) (.pointer none) false = .pointer none := by
    unfold idL
    rw [aG_none]
    · rfl
    · intro p hp
      obtain ⟨a, ha, rfl⟩ := List.mem_map.1 hp
      exact hA a ha
  (repeat' (first | ((with_reducible apply gL); (first | refine yL0 ?_ | ((with_reducible apply gL_lookup); (first | (refine JL_p rfl xR xR (pe_lookG mi_i xR xR xA hg) ?_) | fail)) | refine yL ?_ | ((with_reducible apply gL_go); (first | (refine JL_goq (is_s sp lb (.map (some mb)) c) (hφ := xF) (h := ?_); rintro _ _ ⟨rfl, rfl⟩; try simp only [List.cons_append, List.nil_append]) | fail)) | ((with_reducible apply gL_lookup); (first | refine JL_p rfl xR xR (pe_lookup xR xR (tabM mtab_ok xR) xT (by first | apply hlook | apply hlook2 | rfl)) ?_ | refine JL_p rfl xR xR (pe_lookupK xR xR (tabM mtab_ok xR) xH (by first | apply hlook | apply hlook2 | rfl)) ?_ | fail)) | fail)) | refine yJ ?_ | ((with_reducible apply gJ_if); (first | (refine J_if xR ?_ ?_ <;> intro _ <;> (try (exfalso; first | contradiction | omega))) | (refine J_ifb xR ?_ ?_ <;> (intro hgb; subst hgb)) | (refine J_ifb xR ?_ ?_ <;> intro _) | fail)) | fail))
  exact J_ret2 rfl (by rfl) (by rfl) fun w H => ⟨_, ⟨rfl, rfl⟩, H.sel xZ⟩
theorem find_nil (id : Int) : Pact Tryz.prog 61 #[.pointer none, .int .i64 id] (fun _ => True) [] (ret0 (.tuple #[.pointer none, .int .i64 1])) := by
  refine pact Tryz.func61 rfl Tryz.ntmps61 rfl ?_
  intro W K _
  (repeat' (first | ((with_reducible apply gL); (first | refine yL0 ?_ | refine yL ?_ | ((with_reducible apply gL_go); (first | (refine JL_goq (isnil_s) (hφ := xF) (h := ?_); rintro _ _ ⟨rfl, rfl⟩; try simp only [List.cons_append, List.nil_append]) | fail)) | ((with_reducible apply gL_lookup); (first | refine JL_p rfl xR xR (pe_lookup xR xR (tabM mtab_ok xR) xT (by first | apply hlook | apply hlook2 | rfl)) ?_ | refine JL_p rfl xR xR (pe_lookupK xR xR (tabM mtab_ok xR) xH (by first | apply hlook | apply hlook2 | rfl)) ?_ | fail)) | fail)) | refine yJ ?_ | ((with_reducible apply gJ_if); (first | (refine J_if xR ?_ ?_ <;> intro _ <;> (try (exfalso; first | contradiction | omega))) | (refine J_ifb xR ?_ ?_ <;> (intro hgb; subst hgb)) | (refine J_ifb xR ?_ ?_ <;> intro _) | fail)) | fail))
  exact J_ret2 rfl (by rfl) (by rfl) fun w H => ⟨_, ⟨rfl, rfl⟩, H.sel .nil⟩
theorem find_void (sp : Nat) (x : Value) (c id : Int) : Pact Tryz.prog 61 #[.pointer (some ⟨sp, 0, none⟩), .int .i64 id] (fun _ => True) [pts sp [x, .map none, .int .i64 c] 76] (fun u L' => u = .tuple #[.pointer none, .int .i64 1] ∧ L' = [pts sp [x, .map none, .int .i64 c] 76]) := by
  refine pact Tryz.func61 rfl Tryz.ntmps61 rfl ?_
  intro W K _
  (repeat' (first | ((with_reducible apply gL); (first | refine yL0 ?_ | refine yL ?_ | ((with_reducible apply gL_go); (first | (refine JL_goq (isvoid_s sp x c) (hφ := xF) (h := ?_); rintro _ _ ⟨rfl, rfl⟩; try simp only [List.cons_append, List.nil_append]) | fail)) | ((with_reducible apply gL_lookup); (first | refine JL_p rfl xR xR (pe_lookup xR xR (tabM mtab_ok xR) xT (by first | apply hlook | apply hlook2 | rfl)) ?_ | refine JL_p rfl xR xR (pe_lookupK xR xR (tabM mtab_ok xR) xH (by first | apply hlook | apply hlook2 | rfl)) ?_ | fail)) | fail)) | refine yJ ?_ | ((with_reducible apply gJ_if); (first | (refine J_if xR ?_ ?_ <;> intro _ <;> (try (exfalso; first | contradiction | omega))) | (refine J_ifb xR ?_ ?_ <;> (intro hgb; subst hgb)) | (refine J_ifb xR ?_ ?_ <;> intro _) | fail)) | fail))
  exact J_ret2 rfl (by rfl) (by rfl) fun w H => ⟨_, ⟨rfl, rfl⟩, H.sel xZ⟩
theorem new_s : Pact Tryz.prog 11 #[] (fun _ => True) [] (fun u L' => ∃ sp, u = .pointer (some ⟨sp, 0, none⟩) ∧ L' = [stoA sp [] 0]) := by
  refine pact (args := []) Tryz.func11 rfl Tryz.ntmps11 rfl ?_
  intro W K _
  (repeat' (first | ((with_reducible apply gL); (first | refine yL0 ?_ | ((with_reducible apply gL_makeMap); (first | (first | (refine JL_mmG (t := 73) Value.string xR xR ?_; intro mb) | (refine JL_mmG (t := 74) (Value.int .i64) xR xR ?_; intro lb)) | fail)) | refine yL ?_ | (refine yM ?_; intro _) | ((with_reducible apply gL_makeMap); (first | (refine JL_mm (tabM mtab_ok xR) xR xR ?_; intro _) | fail)) | fail)) | refine yJ ?_ | fail))
  rename_i sp
  refine J_ret1 rfl (by rfl) fun w H => ⟨_, ⟨sp, rfl, rfl⟩, ?_⟩
  exact Ow.sel (stoShut (M := []) ⟨rfl, fun _ h => absurd h List.not_mem_nil⟩ (Ow.satsNil H) (mb := mb) (lb := lb) xZ) xZ
end Go.Proofs.YtnhabkipjmgaaaaGreat
namespace Go.Proofs.YtnhabkipjmgaaaaGreat
set_option linter.unusedSimpArgs false
set_option linter.unusedVariables false
set_option maxRecDepth 20000
set_option maxHeartbeats 4000000
open Go.RowKit Go.Pm

/-- A store as it may be: no number twice, nothing twice, all that is kept right. -/
structure StOk (B : Int) (S : List En) (c : Int) : Prop where
  cnt : 0 ≤ c ∧ c ≤ B
  ids : ∀ e ∈ S, 1 ≤ e.id ∧ e.id ≤ c
  n : ∀ e ∈ S, 1 ≤ e.n ∧ e.n ≤ B
  ok : ∀ e ∈ S, okN e.x = true ∧ NfN e.x
  idd : S.Pairwise (fun a b => a.id ≠ b.id)
  xd : S.Pairwise (fun a b => a.x ≠ b.x)
  len : S.length ≤ 4096
theorem StOk.mono {B B' : Int} {S : List En} {c : Int} (h : StOk B S c) (hb : B ≤ B') : StOk B' S c :=
  ⟨⟨h.cnt.1, by have := h.cnt.2; omega⟩, h.ids, fun e he => ⟨(h.n e he).1, by have := (h.n e he).2; omega⟩, h.ok, h.idd, h.xd, h.len⟩
theorem stok_nil : StOk 0 [] 0 := ⟨by omega, by simp, by simp, by simp, .nil, .nil, by simp⟩
/-- What stands in the middle differs from what stands around it. -/
theorem StOk.mid {B : Int} {A C : List En} {e : En} {c : Int} (h : StOk B (A ++ e :: C) c) : (∀ a ∈ A, a.id ≠ e.id ∧ a.x ≠ e.x) ∧ (∀ a ∈ C, a.id ≠ e.id ∧ a.x ≠ e.x) := by
  have h1 := List.pairwise_append.1 h.idd
  have h2 := List.pairwise_append.1 h.xd
  have h3 := List.pairwise_cons.1 h1.2.1
  have h4 := List.pairwise_cons.1 h2.2.1
  exact ⟨fun a ha => ⟨h1.2.2 a ha e (List.mem_cons_self ..), h2.2.2 a ha e (List.mem_cons_self ..)⟩, fun a ha => ⟨fun q => h3.1 a ha q.symm, fun q => h4.1 a ha q.symm⟩⟩
theorem MOk.split {M : List Me} {A C : List En} {e : En} (h : MOk M (A ++ e :: C)) : ∃ MA m MC, M = MA ++ m :: MC ∧ m.e = e ∧ MOk MA A ∧ MOk MC C ∧ AtF m.d ∧ m.d.nf = e.x := by
  obtain ⟨MA, M2, rfl, h1, h2⟩ := List.map_eq_append_iff.1 h.e
  obtain ⟨m, MC, rfl, h3, h4⟩ := List.map_eq_cons_iff.1 h2
  have hd := h.d m (by simp)
  exact ⟨MA, m, MC, rfl, h3, ⟨h1, fun a ha => h.d a (by simp [ha])⟩, ⟨h4, fun a ha => h.d a (by simp [ha])⟩, hd.1, by rw [hd.2, h3]⟩
theorem MOk.join {MA MC : List Me} {m : Me} {A C : List En} (h1 : MOk MA A) (h2 : MOk MC C) (h3 : AtF m.d) (h4 : m.d.nf = m.e.x) : MOk (MA ++ m :: MC) (A ++ m.e :: C) := by
  refine ⟨by rw [List.map_append, List.map_cons, h1.e, h2.e], fun a ha => ?_⟩
  rcases List.mem_append.1 ha with ha | ha
  · exact h1.d a ha
  · rcases List.mem_cons.1 ha with rfl | ha
    · exact ⟨h3, h4⟩
    · exact h2.d a ha
theorem MOk.two {MA MC : List Me} {A C : List En} (h1 : MOk MA A) (h2 : MOk MC C) : MOk (MA ++ MC) (A ++ C) := by
  refine ⟨by rw [List.map_append, h1.e, h2.e], fun a ha => ?_⟩
  rcases List.mem_append.1 ha with ha | ha
  · exact h1.d a ha
  · exact h2.d a ha
theorem MOk.mem {M : List Me} {S : List En} (h : MOk M S) {a : Me} (ha : a ∈ M) : a.e ∈ S := by rw [← h.e]; exact List.mem_map.2 ⟨a, ha, rfl⟩
theorem keyOk_s (d : At) (hd : AtF d) (hok : okN d.nf = true) : Pact Tryz.prog 72 #[.agg (atC d).toArray] (fun w => AtV w d) [] (ret0 (.tuple #[.string (keyS d.nf), .int .i64 0])) := fun W K w hK H =>
  (keyOf_s d hd W K w hK H).mono fun e w' ⟨v, L', h2, h1, h3⟩ => by
    obtain ⟨k, rfl, hk, rfl⟩ := h2
    exact ⟨_, [], ⟨by rw [hk hok, hok]; rfl, rfl⟩, h1, h3⟩
theorem keep_bad (sp : Nat) (S : List En) (c : Int) (d : At) (hd : AtF d) (hok : okN d.nf = false) : Pact Tryz.prog 39 #[.pointer (some ⟨sp, 0, none⟩), .agg (atC d).toArray] (fun w => AtV w d) [stoA sp S c] (fun u L' => u = .tuple #[.int .i64 0, .int .i64 2] ∧ L' = [stoA sp S c]) := by
  refine pact Tryz.func39 rfl Tryz.ntmps39 rfl ?_
  intro W K hK
  refine J_open (fun w H => stoOpen H .here) ?_
  rintro ⟨⟨mb, lb, M⟩, hM⟩
  dsimp only
  have hk := keyOf_s d hd
  rw [hok] at hk
  (repeat' (first | ((with_reducible apply gL); (first | refine yL0 ?_ | refine yL ?_ | ((with_reducible apply gL_go); (first | (refine JL_goq (is_s sp lb (.map (some mb)) c) (hφ := xF) (h := ?_); rintro _ _ ⟨rfl, rfl⟩; try simp only [List.cons_append, List.nil_append]) | (refine JL_goq (hk) (hφ := (by (try simp only [List.cons_append, List.nil_append]); exact fun w hr => hK w hr.1)) (h := ?_); rintro _ _ ⟨k, rfl, _, rfl⟩; try simp only [List.cons_append, List.nil_append]) | fail)) | (refine yM ?_; intro _) | ((with_reducible apply gL_lookup); (first | refine JL_p rfl xR xR (pe_lookup xR xR (tabM mtab_ok xR) xT (by first | apply hlook | apply hlook2 | rfl)) ?_ | refine JL_p rfl xR xR (pe_lookupK xR xR (tabM mtab_ok xR) xH (by first | apply hlook | apply hlook2 | rfl)) ?_ | fail)) | fail)) | ((with_reducible apply gD); (first | (refine JD_nil ?_; try simp only [List.cons_append, List.nil_append]) | (refine JD_bar ?_; try simp only [List.cons_append, List.nil_append]) | refine yD ?_ | ((with_reducible apply gD_go); (first | (refine JD_goq (is_s sp lb (.map (some mb)) c) (hφ := xF) (h := ?_); rintro _ _ ⟨rfl, rfl⟩; try simp only [List.cons_append, List.nil_append]) | (refine JD_goq (hk) (hφ := (by (try simp only [List.cons_append, List.nil_append]); exact fun w hr => hK w hr.1)) (h := ?_); rintro _ _ ⟨k, rfl, _, rfl⟩; try simp only [List.cons_append, List.nil_append]) | fail)) | (refine yE ?_; intro _) | ((with_reducible apply gD_mapUpdate); (first | refine JD_mapSet xR xR xR (tabM mtab_ok xR) xT xR ?_ | fail)) | fail)) | refine yJ ?_ | ((with_reducible apply gJ_if); (first | (refine J_if xR ?_ ?_ <;> intro _ <;> (try (exfalso; first | contradiction | omega))) | (refine J_ifb xR ?_ ?_ <;> (intro hgb; subst hgb)) | (refine J_ifb xR ?_ ?_ <;> intro _) | fail)) | refine J_draw (id := 13) [0, 1, 2, 3, 4, 5, 6, 7, 8] [9] mixed xC xD xD ?_ | refine J_draw (id := 14) [0, 1, 2, 3, 4, 5, 6, 7, 8, 10, 9, 11, 12] [13] mixed xC xD xD ?_ | fail))
  exact J_ret2 rfl (by rfl) (by rfl) fun w H => ⟨_, ⟨rfl, rfl⟩, Ow.sel (stoShut hM H xZ) xZ⟩
theorem keep_hit (B : Int) (hB : B ≤ 1000000000) (sp : Nat) (A C : List En) (e : En) (c : Int) (d : At) (hd : AtF d) (hok : okN d.nf = true) (hs : StOk B (A ++ e :: C) c) (he : e.x = d.nf) : Pact Tryz.prog 39 #[.pointer (some ⟨sp, 0, none⟩), .agg (atC d).toArray] (fun w => AtV w d) [stoA sp (A ++ e :: C) c] (fun u L' => u = .tuple #[.int .i64 e.id, .int .i64 0] ∧ L' = [stoA sp (A ++ ⟨e.id, e.n + 1, e.x⟩ :: C) c]) := by
  refine pact Tryz.func39 rfl Tryz.ntmps39 rfl ?_
  intro W K hK
  have hmid := hs.mid
  have hnn := hs.n e (by simp)
  have hii := hs.ids e (by simp)
  refine J_open (fun w H => stoOpen H .here) ?_
  rintro ⟨⟨mb, lb, M⟩, hM⟩
  dsimp only at hM ⊢
  obtain ⟨MA, m, MC, rfl, rfl, hMA, hMC, hmd, hmx⟩ := hM.split
  have hkey := keyOk_s d hd hok
  have g1 : lookV (aG (byL (MA ++ m :: MC)) (keyS d.nf)) (.int .i64 0) false = .int .i64 m.e.id := by
    unfold byL
    rw [List.map_append, List.map_cons, ← he, aG_mid]
    · rfl
    · intro p hp
      obtain ⟨a, ha, rfl⟩ := List.mem_map.1 hp
      have h1 := hMA.mem ha
      have h2 := hs.ok a.e (by simp [h1])
      have h3 := hs.ok m.e (by simp)
      exact fun q => (hmid.1 _ h1).2 (keyS_inj h2.2 h3.2 h2.1 h3.1 q)
  have g2 : lookV (aG (idL (MA ++ m :: MC)) m.e.id) (.pointer none) false = .pointer (some ⟨m.b, 0, none⟩) := by
    unfold idL
    rw [List.map_append, List.map_cons, aG_mid]
    · rfl
    · intro p hp
      obtain ⟨a, ha, rfl⟩ := List.mem_map.1 hp
      exact (hmid.1 _ (hMA.mem ha)).1
  refine J_heap (fun w H => meOpen (Ow.satsMid H xA) .here) ?_
  (repeat' (first | ((with_reducible apply gL); (first | refine yL0 ?_ | ((with_reducible apply gL_lookup); (first | (first | (refine JL_p rfl xR xR (pe_lookG mi_s xR xR xA g1) ?_) | (refine JL_p rfl xR xR (pe_lookG mi_i xR xR xA g2) ?_)) | fail)) | refine yL ?_ | ((with_reducible apply gL_go); (first | (refine JL_goq (is_s sp lb (.map (some mb)) c) (hφ := xF) (h := ?_); rintro _ _ ⟨rfl, rfl⟩; try simp only [List.cons_append, List.nil_append]) | (refine JL_goq (hkey) (hφ := (by (try simp only [List.cons_append, List.nil_append]); exact fun w hr => hK w hr.1)) (h := ?_); rintro _ _ ⟨rfl, rfl⟩; try simp only [List.cons_append, List.nil_append]) | fail)) | (refine yM ?_; intro _) | ((with_reducible apply gL_lookup); (first | refine JL_p rfl xR xR (pe_lookup xR xR (tabM mtab_ok xR) xT (by first | apply hlook | apply hlook2 | rfl)) ?_ | refine JL_p rfl xR xR (pe_lookupK xR xR (tabM mtab_ok xR) xH (by first | apply hlook | apply hlook2 | rfl)) ?_ | fail)) | fail)) | ((with_reducible apply gD); (first | (refine JD_nil ?_; try simp only [List.cons_append, List.nil_append]) | (refine JD_bar ?_; try simp only [List.cons_append, List.nil_append]) | refine yD ?_ | ((with_reducible apply gD_go); (first | (refine JD_goq (is_s sp lb (.map (some mb)) c) (hφ := xF) (h := ?_); rintro _ _ ⟨rfl, rfl⟩; try simp only [List.cons_append, List.nil_append]) | (refine JD_goq (hkey) (hφ := (by (try simp only [List.cons_append, List.nil_append]); exact fun w hr => hK w hr.1)) (h := ?_); rintro _ _ ⟨rfl, rfl⟩; try simp only [List.cons_append, List.nil_append]) | fail)) | (refine yE ?_; intro _) | ((with_reducible apply gD_mapUpdate); (first | refine JD_mapSet xR xR xR (tabM mtab_ok xR) xT xR ?_ | fail)) | fail)) | refine yJ ?_ | ((with_reducible apply gJ_if); (first | (refine J_if xR ?_ ?_ <;> intro _ <;> (try (exfalso; first | contradiction | omega))) | (refine J_ifb xR ?_ ?_ <;> (intro hgb; subst hgb)) | (refine J_ifb xR ?_ ?_ <;> intro _) | fail)) | refine J_draw (id := 13) [0, 1, 2, 3, 4, 5, 6, 7, 8] [9] mixed xC xD xD ?_ | refine J_draw (id := 14) [0, 1, 2, 3, 4, 5, 6, 7, 8, 10, 9, 11, 12] [13] mixed xC xD xD ?_ | fail))
  refine J_ret2 rfl (by rfl) (by rfl) fun w H => ⟨_, ⟨rfl, rfl⟩, ?_⟩
  have e1 : byL (MA ++ m :: MC) = byL (MA ++ ⟨m.b, m.d, ⟨m.e.id, m.e.n + 1, m.e.x⟩⟩ :: MC) := by simp [byL]
  have e2 : idL (MA ++ m :: MC) = idL (MA ++ ⟨m.b, m.d, ⟨m.e.id, m.e.n + 1, m.e.x⟩⟩ :: MC) := by simp [idL]
  rw [e1, e2] at H
  have H := meShut (m := ⟨m.b, m.d, ⟨m.e.id, m.e.n + 1, m.e.x⟩⟩) H xZ
  have H := Ow.satsBack (A := MA) (B := MC) (m := ⟨m.b, m.d, ⟨m.e.id, m.e.n + 1, m.e.x⟩⟩) H .here xA
  have hJ := MOk.join (m := ⟨m.b, m.d, ⟨m.e.id, m.e.n + 1, m.e.x⟩⟩) hMA hMC hmd hmx
  exact (stoShut hJ H xZ).sel xZ
theorem ownHas {W : World} {K : Hl} {L R : List HP} {w : World} {d : At} (H : Ow W K L w) (t : Tk L (ownAt d) R) : Ow W K (has (fun w => AtV w d) :: R) w := by
  have H := H.flat t
  have H := Ow.sgsHas (q := d.path) H (.there .here)
  refine Ow.has (M := [has (fun w => ∀ s ∈ d.path, segV w s), Ar 135 2 sgC (.slice d.pa d.path.length d.pc) d.path, Ar 24 1 u32C (.slice d.ca d.comms.length d.cc) d.comms, has (fun w => RawsV w d.oa d.oc d.others)]) H (.cons .here (.cons .here (.cons .here (.cons .here .nil)))) ?_
  intro w hr
  exact ⟨⟨Src.ar (.there .here) w hr, hr.has .here⟩, Src.ar (.there (.there .here)) w hr, hr.has (.there (.there (.there .here)))⟩
theorem MOk.len {M : List Me} {S : List En} (h : MOk M S) : (idL M).length = S.length := by
  unfold idL
  rw [← h.e, List.length_map, List.length_map]
theorem keep_full (B : Int) (hB : B ≤ 1000000000) (sp : Nat) (S : List En) (c : Int) (d : At) (hd : AtF d) (hok : okN d.nf = true) (hs : StOk B S c) (hn : ∀ e ∈ S, e.x ≠ d.nf) (hf : S.length = 4096) : Pact Tryz.prog 39 #[.pointer (some ⟨sp, 0, none⟩), .agg (atC d).toArray] (fun w => AtV w d) [stoA sp S c] (fun u L' => u = .tuple #[.int .i64 0, .int .i64 4] ∧ L' = [stoA sp S c]) := by
  refine pact Tryz.func39 rfl Tryz.ntmps39 rfl ?_
  intro W K hK
  refine J_open (fun w H => stoOpen H .here) ?_
  rintro ⟨⟨mb, lb, M⟩, hM⟩
  dsimp only at hM ⊢
  have hkey := keyOk_s d hd hok
  have hln := hM.len
  have hnf := At.nfN hd.num
  have g1 : lookV (aG (byL M) (keyS d.nf)) (.int .i64 0) false = .int .i64 0 := by
    unfold byL
    rw [aG_none]
    · rfl
    · intro p hp
      obtain ⟨a, ha, rfl⟩ := List.mem_map.1 hp
      have h1 := hM.mem ha
      have h2 := hs.ok a.e h1
      exact fun q => hn _ h1 (keyS_inj h2.2 hnf h2.1 hok q)
  (repeat' (first | ((with_reducible apply gL); (first | refine yL0 ?_ | ((with_reducible apply gL_lookup); (first | (refine JL_p rfl xR xR (pe_lookG mi_s xR xR xA g1) ?_) | fail)) | ((with_reducible apply gL_c_len); (first | (refine JL_p rfl xR xR (pe_lenG mi_i xR xA hln) ?_) | fail)) | refine yL ?_ | ((with_reducible apply gL_go); (first | (refine JL_goq (is_s sp lb (.map (some mb)) c) (hφ := xF) (h := ?_); rintro _ _ ⟨rfl, rfl⟩; try simp only [List.cons_append, List.nil_append]) | (refine JL_goq (hkey) (hφ := (by (try simp only [List.cons_append, List.nil_append]); exact fun w hr => hK w hr.1)) (h := ?_); rintro _ _ ⟨rfl, rfl⟩; try simp only [List.cons_append, List.nil_append]) | fail)) | (refine yM ?_; intro _) | ((with_reducible apply gL_lookup); (first | refine JL_p rfl xR xR (pe_lookup xR xR (tabM mtab_ok xR) xT (by first | apply hlook | apply hlook2 | rfl)) ?_ | refine JL_p rfl xR xR (pe_lookupK xR xR (tabM mtab_ok xR) xH (by first | apply hlook | apply hlook2 | rfl)) ?_ | fail)) | fail)) | ((with_reducible apply gD); (first | (refine JD_nil ?_; try simp only [List.cons_append, List.nil_append]) | (refine JD_bar ?_; try simp only [List.cons_append, List.nil_append]) | refine yD ?_ | ((with_reducible apply gD_go); (first | (refine JD_goq (is_s sp lb (.map (some mb)) c) (hφ := xF) (h := ?_); rintro _ _ ⟨rfl, rfl⟩; try simp only [List.cons_append, List.nil_append]) | (refine JD_goq (hkey) (hφ := (by (try simp only [List.cons_append, List.nil_append]); exact fun w hr => hK w hr.1)) (h := ?_); rintro _ _ ⟨rfl, rfl⟩; try simp only [List.cons_append, List.nil_append]) | fail)) | (refine yE ?_; intro _) | ((with_reducible apply gD_mapUpdate); (first | refine JD_mapSet xR xR xR (tabM mtab_ok xR) xT xR ?_ | fail)) | fail)) | refine yJ ?_ | ((with_reducible apply gJ_if); (first | (refine J_if xR ?_ ?_ <;> intro _ <;> (try (exfalso; first | contradiction | omega))) | (refine J_ifb xR ?_ ?_ <;> (intro hgb; subst hgb)) | (refine J_ifb xR ?_ ?_ <;> intro _) | fail)) | refine J_draw (id := 13) [0, 1, 2, 3, 4, 5, 6, 7, 8] [9] mixed xC xD xD ?_ | refine J_draw (id := 14) [0, 1, 2, 3, 4, 5, 6, 7, 8, 10, 9, 11, 12] [13] mixed xC xD xD ?_ | fail))
  exact J_ret2 rfl (by rfl) (by rfl) fun w H => ⟨_, ⟨rfl, rfl⟩, Ow.sel (stoShut hM H xZ) xZ⟩
theorem keep_new (B : Int) (hB : B ≤ 1000000000) (sp : Nat) (S : List En) (c : Int) (d : At) (hd : AtF d) (hok : okN d.nf = true) (hs : StOk B S c) (hn : ∀ e ∈ S, e.x ≠ d.nf) (hf : S.length ≠ 4096) : Pact Tryz.prog 39 #[.pointer (some ⟨sp, 0, none⟩), .agg (atC d).toArray] (fun w => AtV w d) [stoA sp S c] (fun u L' => u = .tuple #[.int .i64 (c + 1), .int .i64 0] ∧ L' = [stoA sp (S ++ [⟨c + 1, 1, d.nf⟩]) (c + 1)]) := by
  refine pact Tryz.func39 rfl Tryz.ntmps39 rfl ?_
  intro W K hK
  refine J_open (fun w H => stoOpen H .here) ?_
  rintro ⟨⟨mb, lb, M⟩, hM⟩
  dsimp only at hM ⊢
  have hkey := keyOk_s d hd hok
  have hln := hM.len
  have hnf := At.nfN hd.num
  have hcc := hs.cnt
  have hne : ∀ p ∈ byL M, p.1 ≠ keyS d.nf := by
    intro p hp
    obtain ⟨a, ha, rfl⟩ := List.mem_map.1 hp
    have h1 := hM.mem ha
    have h2 := hs.ok a.e h1
    exact fun q => hn _ h1 (keyS_inj h2.2 hnf h2.1 hok q)
  have hni : ∀ p ∈ idL M, p.1 ≠ c + 1 := by
    intro p hp
    obtain ⟨a, ha, rfl⟩ := List.mem_map.1 hp
    have := hs.ids a.e (hM.mem ha)
    dsimp only
    omega
  have g1 : lookV (aG (byL M) (keyS d.nf)) (.int .i64 0) false = .int .i64 0 := by
    rw [aG_none hne]
    rfl
  (repeat' (first | ((with_reducible apply gL); (first | refine yL0 ?_ | ((with_reducible apply gL_lookup); (first | (refine JL_p rfl xR xR (pe_lookG mi_s xR xR xA g1) ?_) | fail)) | ((with_reducible apply gL_c_len); (first | (refine JL_p rfl xR xR (pe_lenG mi_i xR xA hln) ?_) | fail)) | refine yL ?_ | ((with_reducible apply gL_go); (first | (refine JL_goq (is_s sp lb (.map (some mb)) c) (hφ := xF) (h := ?_); rintro _ _ ⟨rfl, rfl⟩; try simp only [List.cons_append, List.nil_append]) | (refine JL_goq (hkey) (hφ := (by (try simp only [List.cons_append, List.nil_append]); exact fun w hr => hK w hr.1)) (h := ?_); rintro _ _ ⟨rfl, rfl⟩; try simp only [List.cons_append, List.nil_append]) | (refine JL_goq (copy_s d hd) (hφ := (by (try simp only [List.cons_append, List.nil_append]); exact fun w hr => hK w hr.1)) (h := ?_); rintro _ _ ⟨d', hd', hx', rfl, rfl⟩; try simp only [List.cons_append, List.nil_append]) | fail)) | (refine yM ?_; intro _) | ((with_reducible apply gL_lookup); (first | refine JL_p rfl xR xR (pe_lookup xR xR (tabM mtab_ok xR) xT (by first | apply hlook | apply hlook2 | rfl)) ?_ | refine JL_p rfl xR xR (pe_lookupK xR xR (tabM mtab_ok xR) xH (by first | apply hlook | apply hlook2 | rfl)) ?_ | fail)) | fail)) | ((with_reducible apply gD); (first | (refine JD_nil ?_; try simp only [List.cons_append, List.nil_append]) | (refine JD_bar ?_; try simp only [List.cons_append, List.nil_append]) | ((with_reducible apply gD_mapUpdate); (first | (first | (refine JD_setG mi_s xR xR xR xA xR ?_) | (refine JD_setG mi_i xR xR xR xA xR ?_)) | fail)) | refine yD ?_ | ((with_reducible apply gD_go); (first | (refine JD_goq (is_s sp lb (.map (some mb)) c) (hφ := xF) (h := ?_); rintro _ _ ⟨rfl, rfl⟩; try simp only [List.cons_append, List.nil_append]) | (refine JD_goq (hkey) (hφ := (by (try simp only [List.cons_append, List.nil_append]); exact fun w hr => hK w hr.1)) (h := ?_); rintro _ _ ⟨rfl, rfl⟩; try simp only [List.cons_append, List.nil_append]) | (refine JD_goq (copy_s d hd) (hφ := (by (try simp only [List.cons_append, List.nil_append]); exact fun w hr => hK w hr.1)) (h := ?_); rintro _ _ ⟨d', hd', hx', rfl, rfl⟩; try simp only [List.cons_append, List.nil_append]) | fail)) | (refine yE ?_; intro _) | ((with_reducible apply gD_mapUpdate); (first | refine JD_mapSet xR xR xR (tabM mtab_ok xR) xT xR ?_ | fail)) | fail)) | refine yJ ?_ | ((with_reducible apply gJ_if); (first | (refine J_if xR ?_ ?_ <;> intro _ <;> (try (exfalso; first | contradiction | omega))) | (refine J_ifb xR ?_ ?_ <;> (intro hgb; subst hgb)) | (refine J_ifb xR ?_ ?_ <;> intro _) | fail)) | refine J_draw (id := 13) [0, 1, 2, 3, 4, 5, 6, 7, 8] [9] mixed xC xD xD ?_ | refine J_draw (id := 14) [0, 1, 2, 3, 4, 5, 6, 7, 8, 10, 9, 11, 12] [13] mixed xC xD xD ?_ | fail))
  rename_i eb
  refine J_ret2 rfl (by rfl) (by rfl) fun w H => ⟨_, ⟨rfl, rfl⟩, ?_⟩
  rw [aP_new hne, aP_new hni] at H
  have e1 : byL M ++ [(keyS d.nf, Value.int .i64 (c + 1))] = byL (M ++ [⟨eb, d', ⟨c + 1, 1, d.nf⟩⟩]) := by simp [byL]
  have e2 : idL M ++ [(c + 1, Value.pointer (some ⟨eb, 0, none⟩))] = idL (M ++ [⟨eb, d', ⟨c + 1, 1, d.nf⟩⟩]) := by simp [idL]
  rw [e1, e2] at H
  have H := ownHas H xA
  have H := meShut (m := ⟨eb, d', ⟨c + 1, 1, d.nf⟩⟩) H xZ
  have H := Ow.satsBack (A := M) (B := []) (m := ⟨eb, d', ⟨c + 1, 1, d.nf⟩⟩) H .here (by rw [List.append_nil]; (first | ((with_reducible (repeat (first | exact Tk.here | apply Tk.there))); done) | ((simp only [List.cons_append, List.nil_append]); (with_reducible (repeat (first | exact Tk.here | apply Tk.there))); done) | fail))
  have hJ := MOk.join (m := ⟨eb, d', ⟨c + 1, 1, d.nf⟩⟩) hM (MC := []) (C := []) ⟨rfl, fun _ h => absurd h List.not_mem_nil⟩ hd' hx'
  exact (stoShut hJ H xZ).sel xZ
end Go.Proofs.YtnhabkipjmgaaaaGreat
namespace Go.Proofs.YtnhabkipjmgaaaaGreat
set_option linter.unusedSimpArgs false
set_option linter.unusedVariables false
set_option maxRecDepth 20000
set_option maxHeartbeats 4000000
open Go.RowKit Go.Pm

/-- What is kept by a number. -/
def fnd (S : List En) (id : Int) : Option En := S.find? (fun e => decide (e.id = id))
def fndX (S : List En) (x : Nf) : Option En := S.find? (fun e => decide (e.x = x))
noncomputable def keepF (S : List En) (c : Int) (x : Nf) : (List En × Int) × Int × Int :=
  match okN x with
  | false => ((S, c), 0, 2)
  | true => match fndX S x with
    | some e => ((S.map (fun a => if a.x = x then ⟨a.id, a.n + 1, a.x⟩ else a), c), e.id, 0)
    | none => if S.length = 4096 then ((S, c), 0, 4) else ((S ++ [⟨c + 1, 1, x⟩], c + 1), c + 1, 0)
def freeF (S : List En) (id : Int) : List En × Int :=
  match fnd S id with
  | none => (S, 5)
  | some e => if e.n = 1 then (S.filter (fun a => decide (a.id ≠ id)), 0) else (S.map (fun a => if a.id = id then ⟨a.id, a.n - 1, a.x⟩ else a), 0)
def cntF (S : List En) (id : Int) : Int := match fnd S id with | none => 0 | some e => e.n
theorem fnd_none {S : List En} {id : Int} (h : fnd S id = none) : ∀ e ∈ S, e.id ≠ id := fun e he => by
  have := List.find?_eq_none.1 h e he
  simpa using this
theorem fnd_some {S : List En} {id : Int} {e : En} (h : fnd S id = some e) : ∃ A C, S = A ++ e :: C ∧ e.id = id ∧ ∀ a ∈ A, a.id ≠ id := by
  obtain ⟨h1, A, C, h2, h3⟩ := List.find?_eq_some_iff_append.1 h
  exact ⟨A, C, h2, by simpa using h1, fun a ha => by simpa using h3 a ha⟩
theorem fndX_none {S : List En} {x : Nf} (h : fndX S x = none) : ∀ e ∈ S, e.x ≠ x := fun e he => by
  have := List.find?_eq_none.1 h e he
  simpa using this
theorem fndX_some {S : List En} {x : Nf} {e : En} (h : fndX S x = some e) : ∃ A C, S = A ++ e :: C ∧ e.x = x ∧ ∀ a ∈ A, a.x ≠ x := by
  obtain ⟨h1, A, C, h2, h3⟩ := List.find?_eq_some_iff_append.1 h
  exact ⟨A, C, h2, by simpa using h1, fun a ha => by simpa using h3 a ha⟩
theorem map_mid {α : Type} {p : α → Prop} [DecidablePred p] {g : α → α} {A C : List α} {e : α} (h1 : ∀ a ∈ A, ¬ p a) (h2 : ∀ a ∈ C, ¬ p a) (he : p e) : (A ++ e :: C).map (fun a => if p a then g a else a) = A ++ g e :: C := by
  rw [List.map_append, List.map_cons, if_pos he]
  congr 1
  · exact (List.map_congr_left fun a ha => if_neg (h1 a ha)).trans (List.map_id' A)
  · congr 1
    exact (List.map_congr_left fun a ha => if_neg (h2 a ha)).trans (List.map_id' C)
theorem filter_mid {α : Type} {p : α → Prop} [DecidablePred p] {A C : List α} {e : α} (h1 : ∀ a ∈ A, p a) (h2 : ∀ a ∈ C, p a) (he : ¬ p e) : (A ++ e :: C).filter (fun a => decide (p a)) = A ++ C := by
  rw [List.filter_append, List.filter_cons, if_neg (by simpa using he)]
  congr 1
  · exact List.filter_eq_self.2 fun a ha => decide_eq_true (h1 a ha)
  · exact List.filter_eq_self.2 fun a ha => decide_eq_true (h2 a ha)
/-- One in the middle is changed, or goes. -/
theorem StOk.set {B B' : Int} {A C : List En} {e : En} {c m : Int} (h : StOk B (A ++ e :: C) c) (hb : B ≤ B') (hm : 1 ≤ m ∧ m ≤ B') : StOk B' (A ++ ⟨e.id, m, e.x⟩ :: C) c := by
  have g : ∀ a ∈ A ++ ⟨e.id, m, e.x⟩ :: C, ∃ b ∈ A ++ e :: C, b.id = a.id ∧ b.x = a.x ∧ (a.n = b.n ∨ a.n = m) := by
    intro a ha
    rcases List.mem_append.1 ha with ha | ha
    · exact ⟨a, by simp [ha], rfl, rfl, .inl rfl⟩
    · rcases List.mem_cons.1 ha with rfl | ha
      · exact ⟨e, by simp, rfl, rfl, .inr rfl⟩
      · exact ⟨a, by simp [ha], rfl, rfl, .inl rfl⟩
  have p1 := List.pairwise_append.1 h.idd
  have p2 := List.pairwise_append.1 h.xd
  have q1 := List.pairwise_cons.1 p1.2.1
  have q2 := List.pairwise_cons.1 p2.2.1
  refine ⟨⟨h.cnt.1, by have := h.cnt.2; omega⟩, fun a ha => ?_, fun a ha => ?_, fun a ha => ?_, ?_, ?_, ?_⟩
  · obtain ⟨b, hb, e1, _⟩ := g a ha
    rw [← e1]; exact h.ids b hb
  · obtain ⟨b, hb', _, _, e3⟩ := g a ha
    have := h.n b hb'
    omega
  · obtain ⟨b, hb, _, e2, _⟩ := g a ha
    rw [← e2]; exact h.ok b hb
  · refine List.pairwise_append.2 ⟨p1.1, List.pairwise_cons.2 ⟨q1.1, q1.2⟩, fun a ha b hb => ?_⟩
    rcases List.mem_cons.1 hb with rfl | hb
    · exact p1.2.2 a ha e (by simp)
    · exact p1.2.2 a ha b (by simp [hb])
  · refine List.pairwise_append.2 ⟨p2.1, List.pairwise_cons.2 ⟨q2.1, q2.2⟩, fun a ha b hb => ?_⟩
    rcases List.mem_cons.1 hb with rfl | hb
    · exact p2.2.2 a ha e (by simp)
    · exact p2.2.2 a ha b (by simp [hb])
  · have := h.len
    simpa using this
theorem StOk.gone {B : Int} {A C : List En} {e : En} {c : Int} (h : StOk B (A ++ e :: C) c) : StOk B (A ++ C) c := by
  have g : (A ++ C).Sublist (A ++ e :: C) := (List.Sublist.refl A).append (List.sublist_cons_self e C)
  exact ⟨h.cnt, fun a ha => h.ids a (g.subset ha), fun a ha => h.n a (g.subset ha), fun a ha => h.ok a (g.subset ha), h.idd.sublist g, h.xd.sublist g, Nat.le_trans g.length_le h.len⟩
theorem StOk.new {B : Int} {S : List En} {c : Int} {x : Nf} (h : StOk B S c) (hB : 0 ≤ B) (hx : okN x = true) (hn : NfN x) (hne : ∀ e ∈ S, e.x ≠ x) (hf : S.length ≠ 4096) : StOk (B + 1) (S ++ [⟨c + 1, 1, x⟩]) (c + 1) := by
  have hc := h.cnt
  refine ⟨by omega, fun a ha => ?_, fun a ha => ?_, fun a ha => ?_, ?_, ?_, ?_⟩
  · rcases List.mem_append.1 ha with ha | ha
    · have := h.ids a ha; omega
    · obtain rfl := List.mem_singleton.1 ha; dsimp only; omega
  · rcases List.mem_append.1 ha with ha | ha
    · have := h.n a ha; omega
    · obtain rfl := List.mem_singleton.1 ha; dsimp only; omega
  · rcases List.mem_append.1 ha with ha | ha
    · exact h.ok a ha
    · obtain rfl := List.mem_singleton.1 ha; exact ⟨hx, hn⟩
  · refine List.pairwise_append.2 ⟨h.idd, List.pairwise_singleton _ _, fun a ha b hb => ?_⟩
    obtain rfl := List.mem_singleton.1 hb
    have := h.ids a ha
    dsimp only
    omega
  · refine List.pairwise_append.2 ⟨h.xd, List.pairwise_singleton _ _, fun a ha b hb => ?_⟩
    obtain rfl := List.mem_singleton.1 hb
    exact hne a ha
  · have := h.len
    simp only [List.length_append, List.length_cons, List.length_nil]
    omega
theorem keepF_hit {B : Int} {A C : List En} {e : En} {c : Int} {x : Nf} (h : StOk B (A ++ e :: C) c) (he : e.x = x) (hf : fndX (A ++ e :: C) x = some e) (hx : okN x = true) : keepF (A ++ e :: C) c x = ((A ++ ⟨e.id, e.n + 1, e.x⟩ :: C, c), e.id, 0) := by
  have hm := h.mid
  unfold keepF
  rw [hx, hf]
  dsimp only
  rw [map_mid (p := fun a : En => a.x = x) (g := fun a => ⟨a.id, a.n + 1, a.x⟩) (fun a ha => by rw [← he]; exact (hm.1 a ha).2) (fun a ha => by rw [← he]; exact (hm.2 a ha).2) he]
theorem keepF_ok {B : Int} {S : List En} {c : Int} {x : Nf} (h : StOk B S c) (hB : 0 ≤ B) (hn : NfN x) : StOk (B + 1) (keepF S c x).1.1 (keepF S c x).1.2 := by
  rcases hx : okN x with _ | _
  · have : keepF S c x = ((S, c), 0, 2) := by unfold keepF; rw [hx]
    rw [this]
    exact h.mono (by omega)
  · rcases hf : fndX S x with _ | e
    · by_cases hl : S.length = 4096
      · have : keepF S c x = ((S, c), 0, 4) := by unfold keepF; rw [hx, hf]; dsimp only; rw [if_pos hl]
        rw [this]
        exact h.mono (by omega)
      · have : keepF S c x = ((S ++ [⟨c + 1, 1, x⟩], c + 1), c + 1, 0) := by unfold keepF; rw [hx, hf]; dsimp only; rw [if_neg hl]
        rw [this]
        exact h.new hB hx hn (fndX_none hf) hl
    · obtain ⟨A, C, rfl, he, _⟩ := fndX_some hf
      rw [keepF_hit h he hf hx]
      have := h.n e (by simp)
      exact h.set (by omega) (by omega)
theorem freeF_hit {B : Int} {A C : List En} {e : En} {c id : Int} (h : StOk B (A ++ e :: C) c) (he : e.id = id) (hf : fnd (A ++ e :: C) id = some e) : freeF (A ++ e :: C) id = if e.n = 1 then (A ++ C, 0) else (A ++ ⟨e.id, e.n - 1, e.x⟩ :: C, 0) := by
  have hm := h.mid
  unfold freeF
  rw [hf]
  dsimp only
  rw [map_mid (p := fun a : En => a.id = id) (g := fun a => ⟨a.id, a.n - 1, a.x⟩) (fun a ha => by rw [← he]; exact (hm.1 a ha).1) (fun a ha => by rw [← he]; exact (hm.2 a ha).1) he,
    filter_mid (p := fun a : En => a.id ≠ id) (fun a ha => by rw [← he]; exact (hm.1 a ha).1) (fun a ha => by rw [← he]; exact (hm.2 a ha).1) (by simpa using he)]
theorem freeF_ok {B : Int} {S : List En} {c id : Int} (h : StOk B S c) : StOk B (freeF S id).1 c := by
  rcases hf : fnd S id with _ | e
  · have : freeF S id = (S, 5) := by unfold freeF; rw [hf]
    rw [this]
    exact h
  · obtain ⟨A, C, rfl, he, _⟩ := fnd_some hf
    rw [freeF_hit h he hf]
    split
    · exact h.gone
    · have := h.n e (by simp)
      exact h.set (by omega) (by omega)
/-- Nothing at all. -/
def zAt : At := ⟨0, none, 0, [], 0, false, 0, false, 0, false, false, 0, 0, none, 0, [], none, 0, []⟩
theorem zAt_f : AtF zAt := by
  refine ⟨⟨by unfold I64 zAt; decide, by unfold U32 zAt; decide, by unfold U32 zAt; decide, by unfold U32 zAt; decide, by unfold U32 zAt; decide, by unfold U32 zAt; decide, ?_, ?_, ?_⟩, by unfold zAt; decide, by unfold zAt; decide, by unfold zAt; decide⟩
  all_goals (intro s hs; exact absurd hs List.not_mem_nil)
theorem zAt_v (w : World) : AtV w zAt := ⟨⟨Vw.nil w 2, fun _ h => absurd h List.not_mem_nil⟩, Vw.nil w 1, Vw.nil w 2, fun _ h => absurd h List.not_mem_nil⟩
theorem free_miss (sp : Nat) (S : List En) (c id : Int) (hn : ∀ e ∈ S, e.id ≠ id) : Pact Tryz.prog 32 #[.pointer (some ⟨sp, 0, none⟩), .int .i64 id] (fun _ => True) [stoA sp S c] (fun u L' => u = .int .i64 5 ∧ L' = [stoA sp S c]) := by
  refine pact Tryz.func32 rfl Tryz.ntmps32 rfl ?_
  intro W K _
  refine J_open (fun w H => stoOpen H .here) ?_
  rintro ⟨⟨mb, lb, M⟩, hM⟩
  dsimp only at hM ⊢
  (repeat' (first | ((with_reducible apply gL); (first | refine yL0 ?_ | refine yL ?_ | ((with_reducible apply gL_go); (first | (refine JL_goq (find_miss sp mb lb c id M (fun a ha => hn _ (hM.mem ha))) (hφ := xF) (h := ?_); rintro _ _ ⟨rfl, rfl⟩; try simp only [List.cons_append, List.nil_append]) | fail)) | fail)) | ((with_reducible apply gD); (first | (refine JD_nil ?_; try simp only [List.cons_append, List.nil_append]) | (refine JD_bar ?_; try simp only [List.cons_append, List.nil_append]) | refine yD ?_ | fail)) | refine yJ ?_ | ((with_reducible apply gJ_if); (first | (refine J_if xR ?_ ?_ <;> intro _ <;> (try (exfalso; first | contradiction | omega))) | (refine J_ifb xR ?_ ?_ <;> (intro hgb; subst hgb)) | (refine J_ifb xR ?_ ?_ <;> intro _) | fail)) | refine J_draw (id := 7) [0, 1, 2, 3, 4, 5, 6, 7] [8] mixed xC xD xD ?_ | fail))
  exact J_ret1 rfl (by rfl) fun w H => ⟨_, ⟨rfl, rfl⟩, Ow.sel (stoShut hM H xZ) xZ⟩
theorem free_dec (B : Int) (hB : B ≤ 1000000000) (sp : Nat) (A C : List En) (e : En) (c id : Int) (hs : StOk B (A ++ e :: C) c) (he : e.id = id) (h1 : e.n ≠ 1) : Pact Tryz.prog 32 #[.pointer (some ⟨sp, 0, none⟩), .int .i64 id] (fun _ => True) [stoA sp (A ++ e :: C) c] (fun u L' => u = .int .i64 0 ∧ L' = [stoA sp (A ++ ⟨e.id, e.n - 1, e.x⟩ :: C) c]) := by
  refine pact Tryz.func32 rfl Tryz.ntmps32 rfl ?_
  intro W K _
  have hmid := hs.mid
  have hnn := hs.n e (by simp)
  refine J_open (fun w H => stoOpen H .here) ?_
  rintro ⟨⟨mb, lb, M⟩, hM⟩
  dsimp only at hM ⊢
  obtain ⟨MA, m, MC, rfl, rfl, hMA, hMC, hmd, hmx⟩ := hM.split
  refine J_heap (fun w H => meOpen (Ow.satsMid H xA) .here) ?_
  (repeat' (first | ((with_reducible apply gL); (first | refine yL0 ?_ | refine yL ?_ | ((with_reducible apply gL_go); (first | (refine JL_goq (find_hit sp mb lb c id MA MC m he (fun a ha => by rw [← he]; exact (hmid.1 _ (hMA.mem ha)).1)) (hφ := xF) (h := ?_); rintro _ _ ⟨rfl, rfl⟩; try simp only [List.cons_append, List.nil_append]) | fail)) | fail)) | ((with_reducible apply gD); (first | (refine JD_nil ?_; try simp only [List.cons_append, List.nil_append]) | (refine JD_bar ?_; try simp only [List.cons_append, List.nil_append]) | refine yD ?_ | fail)) | refine yJ ?_ | ((with_reducible apply gJ_if); (first | (refine J_if xR ?_ ?_ <;> intro _ <;> (try (exfalso; first | contradiction | omega))) | (refine J_ifb xR ?_ ?_ <;> (intro hgb; subst hgb)) | (refine J_ifb xR ?_ ?_ <;> intro _) | fail)) | refine J_draw (id := 7) [0, 1, 2, 3, 4, 5, 6, 7] [8] mixed xC xD xD ?_ | fail))
  refine J_ret1 rfl (by rfl) fun w H => ⟨_, ⟨rfl, rfl⟩, ?_⟩
  have e1 : byL (MA ++ m :: MC) = byL (MA ++ ⟨m.b, m.d, ⟨m.e.id, m.e.n - 1, m.e.x⟩⟩ :: MC) := by simp [byL]
  have e2 : idL (MA ++ m :: MC) = idL (MA ++ ⟨m.b, m.d, ⟨m.e.id, m.e.n - 1, m.e.x⟩⟩ :: MC) := by simp [idL]
  rw [e1, e2] at H
  have H := meShut (m := ⟨m.b, m.d, ⟨m.e.id, m.e.n - 1, m.e.x⟩⟩) H xZ
  have H := Ow.satsBack (A := MA) (B := MC) (m := ⟨m.b, m.d, ⟨m.e.id, m.e.n - 1, m.e.x⟩⟩) H .here xA
  have hJ := MOk.join (m := ⟨m.b, m.d, ⟨m.e.id, m.e.n - 1, m.e.x⟩⟩) hMA hMC hmd hmx
  exact (stoShut hJ H xZ).sel xZ
theorem free_gone (B : Int) (hB : B ≤ 1000000000) (sp : Nat) (A C : List En) (e : En) (c id : Int) (hs : StOk B (A ++ e :: C) c) (he : e.id = id) (h1 : e.n = 1) : Pact Tryz.prog 32 #[.pointer (some ⟨sp, 0, none⟩), .int .i64 id] (fun _ => True) [stoA sp (A ++ e :: C) c] (fun u L' => u = .int .i64 0 ∧ L' = [stoA sp (A ++ C) c]) := by
  refine pact Tryz.func32 rfl Tryz.ntmps32 rfl ?_
  intro W K _
  have hmid := hs.mid
  refine J_open (fun w H => stoOpen H .here) ?_
  rintro ⟨⟨mb, lb, M⟩, hM⟩
  dsimp only at hM ⊢
  obtain ⟨MA, m, MC, rfl, rfl, hMA, hMC, hmd, hmx⟩ := hM.split
  refine J_heap (fun w H => meOpen (Ow.satsMid H xA) .here) ?_
  (repeat' (first | ((with_reducible apply gL); (first | refine yL0 ?_ | ((with_reducible apply gL_c_delete); (first | (first | (refine JL_delG mi_i xR xR xR xA xR ?_) | (refine JD_delG mi_s xR xR xR xA xR ?_)) | fail)) | refine yL ?_ | ((with_reducible apply gL_go); (first | (refine JL_goq (find_hit sp mb lb c id MA MC m he (fun a ha => by rw [← he]; exact (hmid.1 _ (hMA.mem ha)).1)) (hφ := xF) (h := ?_); rintro _ _ ⟨rfl, rfl⟩; try simp only [List.cons_append, List.nil_append]) | fail)) | fail)) | ((with_reducible apply gD); (first | (refine JD_nil ?_; try simp only [List.cons_append, List.nil_append]) | (refine JD_bar ?_; try simp only [List.cons_append, List.nil_append]) | ((with_reducible apply gD_c_delete); (first | (first | (refine JL_delG mi_i xR xR xR xA xR ?_) | (refine JD_delG mi_s xR xR xR xA xR ?_)) | fail)) | refine yD ?_ | fail)) | refine yJ ?_ | ((with_reducible apply gJ_if); (first | (refine J_if xR ?_ ?_ <;> intro _ <;> (try (exfalso; first | contradiction | omega))) | (refine J_ifb xR ?_ ?_ <;> (intro hgb; subst hgb)) | (refine J_ifb xR ?_ ?_ <;> intro _) | fail)) | refine J_draw (id := 7) [0, 1, 2, 3, 4, 5, 6, 7] [8] mixed xC xD xD ?_ | fail))
  refine J_ret1 rfl (by rfl) fun w H => ⟨_, ⟨rfl, rfl⟩, ?_⟩
  have e1 : aD (byL (MA ++ m :: MC)) (keyS m.e.x) = byL (MA ++ MC) := by
    unfold byL
    rw [List.map_append, List.map_append, List.map_cons, aD_mid]
    intro p hp
    obtain ⟨a, ha, rfl⟩ := List.mem_map.1 hp
    have h1 := hMA.mem ha
    have h2 := hs.ok a.e (by simp [h1])
    have h3 := hs.ok m.e (by simp)
    exact fun q => (hmid.1 _ h1).2 (keyS_inj h2.2 h3.2 h2.1 h3.1 q)
  have e2 : aD (idL (MA ++ m :: MC)) id = idL (MA ++ MC) := by
    unfold idL
    rw [List.map_append, List.map_append, List.map_cons, he, aD_mid]
    intro p hp
    obtain ⟨a, ha, rfl⟩ := List.mem_map.1 hp
    rw [← he]
    exact (hmid.1 _ (hMA.mem ha)).1
  rw [e1, e2] at H
  exact (stoShut (MOk.two hMA hMC) H xZ).sel xZ
end Go.Proofs.YtnhabkipjmgaaaaGreat
namespace Go.Proofs.YtnhabkipjmgaaaaGreat
set_option linter.unusedSimpArgs false
set_option linter.unusedVariables false
set_option maxRecDepth 20000
set_option maxHeartbeats 4000000
open Go.RowKit Go.Pm

abbrev zC : List Value := [.int .i64 0, .slice none 0 0, .int .u32 0, .bool false, .int .u32 0, .bool false, .int .u32 0, .bool false, .bool false, .int .u32 0, .int .u32 0, .slice none 0 0, .slice none 0 0]
theorem get_miss (sp : Nat) (S : List En) (c id : Int) (hn : ∀ e ∈ S, e.id ≠ id) : Pact Tryz.prog 45 #[.pointer (some ⟨sp, 0, none⟩), .int .i64 id] (fun _ => True) [stoA sp S c] (fun u L' => u = .tuple #[.agg (atC zAt).toArray, .int .i64 5] ∧ L' = [stoA sp S c]) := by
  refine pact Tryz.func45 rfl Tryz.ntmps45 rfl ?_
  intro W K _
  refine J_open (fun w H => stoOpen H .here) ?_
  rintro ⟨⟨mb, lb, M⟩, hM⟩
  dsimp only at hM ⊢
  (repeat' (first | ((with_reducible apply gL); (first | refine yL0 ?_ | refine yL ?_ | ((with_reducible apply gL_go); (first | (refine JL_goq (find_miss sp mb lb c id M (fun a ha => hn _ (hM.mem ha))) (hφ := xF) (h := ?_); rintro _ _ ⟨rfl, rfl⟩; try simp only [List.cons_append, List.nil_append]) | fail)) | (refine yM ?_; intro _) | fail)) | refine yJ ?_ | ((with_reducible apply gJ_if); (first | (refine J_if xR ?_ ?_ <;> intro _ <;> (try (exfalso; first | contradiction | omega))) | (refine J_ifb xR ?_ ?_ <;> (intro hgb; subst hgb)) | (refine J_ifb xR ?_ ?_ <;> intro _) | fail)) | fail))
  exact J_retC1 (cs := zC) rfl (by rfl) (by rfl) xA (by rfl) fun w H => ⟨_, ⟨rfl, rfl⟩, Ow.sel (stoShut hM H xZ) xZ⟩
theorem get_hit (sp : Nat) (A C : List En) (e : En) (c id : Int) (he : e.id = id) (hA : ∀ a ∈ A, a.id ≠ id) : Pact Tryz.prog 45 #[.pointer (some ⟨sp, 0, none⟩), .int .i64 id] (fun _ => True) [stoA sp (A ++ e :: C) c] (fun u L' => ∃ d', AtF d' ∧ d'.nf = e.x ∧ u = .tuple #[.agg (atC d').toArray, .int .i64 0] ∧ L' = [stoA sp (A ++ e :: C) c, ownAt d']) := by
  refine pact Tryz.func45 rfl Tryz.ntmps45 rfl ?_
  intro W K _
  refine J_open (fun w H => stoOpen H .here) ?_
  rintro ⟨⟨mb, lb, M⟩, hM⟩
  dsimp only at hM ⊢
  obtain ⟨MA, m, MC, rfl, rfl, hMA, hMC, hmd, hmx⟩ := hM.split
  refine J_heap (fun w H => meOpen (Ow.satsMid H xA) .here) ?_
  (repeat' (first | ((with_reducible apply gL); (first | refine yL0 ?_ | refine yL ?_ | ((with_reducible apply gL_go); (first | (refine JL_goq (find_hit sp mb lb c id MA MC m he (fun a ha => hA _ (hMA.mem ha))) (hφ := xF) (h := ?_); rintro _ _ ⟨rfl, rfl⟩; try simp only [List.cons_append, List.nil_append]) | (refine JL_goq (copy_s m.d hmd) (hφ := (by (try simp only [List.cons_append, List.nil_append]); exact fun w hr => hr.has (φ := fun w => AtV w m.d) xA)) (h := ?_); rintro _ _ ⟨d', hd', hx', rfl, rfl⟩; try simp only [List.cons_append, List.nil_append]) | fail)) | (refine yM ?_; intro _) | fail)) | refine yJ ?_ | ((with_reducible apply gJ_if); (first | (refine J_if xR ?_ ?_ <;> intro _ <;> (try (exfalso; first | contradiction | omega))) | (refine J_ifb xR ?_ ?_ <;> (intro hgb; subst hgb)) | (refine J_ifb xR ?_ ?_ <;> intro _) | fail)) | fail))
  refine J_retC1 (cs := atC d') rfl (by rfl) (by rfl) xA (by rfl) fun w H => ⟨_, ⟨d', hd', by rw [hx', hmx], rfl, rfl⟩, ?_⟩
  have H := meShut (m := m) H xZ
  have H := Ow.satsBack (A := MA) (B := MC) (m := m) H .here xA
  exact (stoShut hM H xZ).sel xZ
theorem count_miss (sp : Nat) (S : List En) (c id : Int) (hn : ∀ e ∈ S, e.id ≠ id) : Pact Tryz.prog 30 #[.pointer (some ⟨sp, 0, none⟩), .int .i64 id] (fun _ => True) [stoA sp S c] (fun u L' => u = .int .i64 0 ∧ L' = [stoA sp S c]) := by
  refine pact Tryz.func30 rfl Tryz.ntmps30 rfl ?_
  intro W K _
  refine J_open (fun w H => stoOpen H .here) ?_
  rintro ⟨⟨mb, lb, M⟩, hM⟩
  dsimp only at hM ⊢
  (repeat' (first | ((with_reducible apply gL); (first | refine yL0 ?_ | refine yL ?_ | ((with_reducible apply gL_go); (first | (refine JL_goq (find_miss sp mb lb c id M (fun a ha => hn _ (hM.mem ha))) (hφ := xF) (h := ?_); rintro _ _ ⟨rfl, rfl⟩; try simp only [List.cons_append, List.nil_append]) | fail)) | fail)) | refine yJ ?_ | ((with_reducible apply gJ_if); (first | (refine J_if xR ?_ ?_ <;> intro _ <;> (try (exfalso; first | contradiction | omega))) | (refine J_ifb xR ?_ ?_ <;> (intro hgb; subst hgb)) | (refine J_ifb xR ?_ ?_ <;> intro _) | fail)) | fail))
  exact J_ret1 rfl (by rfl) fun w H => ⟨_, ⟨rfl, rfl⟩, Ow.sel (stoShut hM H xZ) xZ⟩
theorem count_hit (sp : Nat) (A C : List En) (e : En) (c id : Int) (he : e.id = id) (hA : ∀ a ∈ A, a.id ≠ id) : Pact Tryz.prog 30 #[.pointer (some ⟨sp, 0, none⟩), .int .i64 id] (fun _ => True) [stoA sp (A ++ e :: C) c] (fun u L' => u = .int .i64 e.n ∧ L' = [stoA sp (A ++ e :: C) c]) := by
  refine pact Tryz.func30 rfl Tryz.ntmps30 rfl ?_
  intro W K _
  refine J_open (fun w H => stoOpen H .here) ?_
  rintro ⟨⟨mb, lb, M⟩, hM⟩
  dsimp only at hM ⊢
  obtain ⟨MA, m, MC, rfl, rfl, hMA, hMC, hmd, hmx⟩ := hM.split
  refine J_heap (fun w H => meOpen (Ow.satsMid H xA) .here) ?_
  (repeat' (first | ((with_reducible apply gL); (first | refine yL0 ?_ | refine yL ?_ | ((with_reducible apply gL_go); (first | (refine JL_goq (find_hit sp mb lb c id MA MC m he (fun a ha => hA _ (hMA.mem ha))) (hφ := xF) (h := ?_); rintro _ _ ⟨rfl, rfl⟩; try simp only [List.cons_append, List.nil_append]) | fail)) | fail)) | refine yJ ?_ | ((with_reducible apply gJ_if); (first | (refine J_if xR ?_ ?_ <;> intro _ <;> (try (exfalso; first | contradiction | omega))) | (refine J_ifb xR ?_ ?_ <;> (intro hgb; subst hgb)) | (refine J_ifb xR ?_ ?_ <;> intro _) | fail)) | fail))
  refine J_ret1 rfl (by rfl) fun w H => ⟨_, ⟨rfl, rfl⟩, ?_⟩
  have H := meShut (m := m) H xZ
  have H := Ow.satsBack (A := MA) (B := MC) (m := m) H .here xA
  exact (stoShut hM H xZ).sel xZ
theorem len_s (sp : Nat) (S : List En) (c : Int) : Pact Tryz.prog 31 #[.pointer (some ⟨sp, 0, none⟩)] (fun _ => True) [stoA sp S c] (fun u L' => u = .int .i64 S.length ∧ L' = [stoA sp S c]) := by
  refine pact Tryz.func31 rfl Tryz.ntmps31 rfl ?_
  intro W K _
  refine J_open (fun w H => stoOpen H .here) ?_
  rintro ⟨⟨mb, lb, M⟩, hM⟩
  dsimp only at hM ⊢
  have hln := hM.len
  (repeat' (first | ((with_reducible apply gL); (first | refine yL0 ?_ | ((with_reducible apply gL_c_len); (first | (refine JL_p rfl xR xR (pe_lenG mi_i xR xA hln) ?_) | fail)) | refine yL ?_ | ((with_reducible apply gL_go); (first | (refine JL_goq (is_s sp lb (.map (some mb)) c) (hφ := xF) (h := ?_); rintro _ _ ⟨rfl, rfl⟩; try simp only [List.cons_append, List.nil_append]) | fail)) | fail)) | refine yJ ?_ | ((with_reducible apply gJ_if); (first | (refine J_if xR ?_ ?_ <;> intro _ <;> (try (exfalso; first | contradiction | omega))) | (refine J_ifb xR ?_ ?_ <;> (intro hgb; subst hgb)) | (refine J_ifb xR ?_ ?_ <;> intro _) | fail)) | fail))
  exact J_ret1 rfl (by rfl) fun w H => ⟨_, ⟨rfl, rfl⟩, Ow.sel (stoShut hM H xZ) xZ⟩
theorem Pact.imp {P : Program} {f : FuncId} {args : Array Value} {φ : World → Prop} {pre : List HP} {Rr Rr' : Value → List HP → Prop} (S : Pact P f args φ pre Rr) (h : ∀ v L', Rr v L' → Rr' v L') : Pact P f args φ pre Rr' := fun W K w hK H =>
  (S W K w hK H).mono fun e w' ⟨v, L', h1, h2, h3⟩ => ⟨v, L', h _ _ h1, h2, h3⟩
theorem keep_s (B : Int) (hB0 : 0 ≤ B) (hB : B ≤ 1000000000) (sp : Nat) (S : List En) (c : Int) (d : At) (hd : AtF d) (hs : StOk B S c) : Pact Tryz.prog 39 #[.pointer (some ⟨sp, 0, none⟩), .agg (atC d).toArray] (fun w => AtV w d) [stoA sp S c] (fun u L' => u = .tuple #[.int .i64 (keepF S c d.nf).2.1, .int .i64 (keepF S c d.nf).2.2] ∧ L' = [stoA sp (keepF S c d.nf).1.1 (keepF S c d.nf).1.2]) := by
  rcases hx : okN d.nf with _ | _
  · have : keepF S c d.nf = ((S, c), 0, 2) := by unfold keepF; rw [hx]
    rw [this]
    exact keep_bad sp S c d hd hx
  · rcases hf : fndX S d.nf with _ | e
    · by_cases hl : S.length = 4096
      · have : keepF S c d.nf = ((S, c), 0, 4) := by unfold keepF; rw [hx, hf]; dsimp only; rw [if_pos hl]
        rw [this]
        exact keep_full B hB sp S c d hd hx hs (fndX_none hf) hl
      · have : keepF S c d.nf = ((S ++ [⟨c + 1, 1, d.nf⟩], c + 1), c + 1, 0) := by unfold keepF; rw [hx, hf]; dsimp only; rw [if_neg hl]
        rw [this]
        exact keep_new B hB sp S c d hd hx hs (fndX_none hf) hl
    · obtain ⟨A, C, rfl, he, _⟩ := fndX_some hf
      rw [keepF_hit hs he hf hx]
      exact keep_hit B hB sp A C e c d hd hx hs he
theorem free_s (B : Int) (hB : B ≤ 1000000000) (sp : Nat) (S : List En) (c id : Int) (hs : StOk B S c) : Pact Tryz.prog 32 #[.pointer (some ⟨sp, 0, none⟩), .int .i64 id] (fun _ => True) [stoA sp S c] (fun u L' => u = .int .i64 (freeF S id).2 ∧ L' = [stoA sp (freeF S id).1 c]) := by
  rcases hf : fnd S id with _ | e
  · have : freeF S id = (S, 5) := by unfold freeF; rw [hf]
    rw [this]
    exact free_miss sp S c id (fnd_none hf)
  · obtain ⟨A, C, rfl, he, _⟩ := fnd_some hf
    rw [freeF_hit hs he hf]
    by_cases h1 : e.n = 1
    · rw [if_pos h1]
      exact free_gone B hB sp A C e c id hs he h1
    · rw [if_neg h1]
      exact free_dec B hB sp A C e c id hs he h1
def getE (S : List En) (id : Int) : Int := match fnd S id with | none => 5 | some _ => 0
def getX (S : List En) (id : Int) : Nf := match fnd S id with | none => zAt.nf | some e => e.x
theorem get_s (sp : Nat) (S : List En) (c id : Int) : Pact Tryz.prog 45 #[.pointer (some ⟨sp, 0, none⟩), .int .i64 id] (fun _ => True) [stoA sp S c] (fun u L' => ∃ d' P, AtF d' ∧ d'.nf = getX S id ∧ u = .tuple #[.agg (atC d').toArray, .int .i64 (getE S id)] ∧ L' = [stoA sp S c, has (fun w => AtV w d')] ++ P ∧ P = []) := by
  rcases hf : fnd S id with _ | e
  · have h1 : getE S id = 5 := by unfold getE; rw [hf]
    have h2 : getX S id = zAt.nf := by unfold getX; rw [hf]
    rw [h1, h2]
    intro W K w hK H
    refine (get_miss sp S c id (fnd_none hf) W K w hK H).mono ?_
    rintro e w' ⟨v, L', ⟨rfl, rfl⟩, h5, H'⟩
    exact ⟨_, _, ⟨zAt, [], zAt_f, rfl, rfl, rfl, rfl⟩, h5, (Ow.hasTrue (φ := fun w => AtV w zAt) H' zAt_v).sel xZ⟩
  · have h1 : getE S id = 0 := by unfold getE; rw [hf]
    have h2 : getX S id = e.x := by unfold getX; rw [hf]
    rw [h1, h2]
    obtain ⟨A, C, rfl, he, hA⟩ := fnd_some hf
    intro W K w hK H
    refine (get_hit sp A C e c id he hA W K w hK H).mono ?_
    rintro e w' ⟨v, L', ⟨d', hd, hx, rfl, rfl⟩, h5, H'⟩
    exact ⟨_, _, ⟨d', [], hd, hx, rfl, rfl, rfl⟩, h5, (ownHas H' xA).sel xZ⟩
theorem cnt_s (sp : Nat) (S : List En) (c id : Int) : Pact Tryz.prog 30 #[.pointer (some ⟨sp, 0, none⟩), .int .i64 id] (fun _ => True) [stoA sp S c] (fun u L' => u = .int .i64 (cntF S id) ∧ L' = [stoA sp S c]) := by
  rcases hf : fnd S id with _ | e
  · have : cntF S id = 0 := by unfold cntF; rw [hf]
    rw [this]
    exact count_miss sp S c id (fnd_none hf)
  · have : cntF S id = e.n := by unfold cntF; rw [hf]
    rw [this]
    obtain ⟨A, C, rfl, he, hA⟩ := fnd_some hf
    exact count_hit sp A C e c id he hA
/-! A store that is not there, or that no call made. -/
theorem keep_nil (cs : List Value) (hl : cs.length = 13) : Pact Tryz.prog 39 #[.pointer none, .agg cs.toArray] (fun _ => True) [] (ret0 (.tuple #[.int .i64 0, .int .i64 1])) := by
  refine pact Tryz.func39 rfl Tryz.ntmps39 rfl ?_
  intro W K _
  (repeat' (first | ((with_reducible apply gL); (first | refine yL0 ?_ | refine yL ?_ | ((with_reducible apply gL_go); (first | (refine JL_goq (isnil_s) (hφ := xF) (h := ?_); rintro _ _ ⟨rfl, rfl⟩; try simp only [List.cons_append, List.nil_append]) | fail)) | (refine yM ?_; intro _) | ((with_reducible apply gL_lookup); (first | refine JL_p rfl xR xR (pe_lookup xR xR (tabM mtab_ok xR) xT (by first | apply hlook | apply hlook2 | rfl)) ?_ | refine JL_p rfl xR xR (pe_lookupK xR xR (tabM mtab_ok xR) xH (by first | apply hlook | apply hlook2 | rfl)) ?_ | fail)) | fail)) | ((with_reducible apply gD); (first | (refine JD_nil ?_; try simp only [List.cons_append, List.nil_append]) | (refine JD_bar ?_; try simp only [List.cons_append, List.nil_append]) | refine yD ?_ | ((with_reducible apply gD_go); (first | (refine JD_goq (isnil_s) (hφ := xF) (h := ?_); rintro _ _ ⟨rfl, rfl⟩; try simp only [List.cons_append, List.nil_append]) | fail)) | (refine yE ?_; intro _) | ((with_reducible apply gD_mapUpdate); (first | refine JD_mapSet xR xR xR (tabM mtab_ok xR) xT xR ?_ | fail)) | fail)) | refine yJ ?_ | ((with_reducible apply gJ_if); (first | (refine J_if xR ?_ ?_ <;> intro _ <;> (try (exfalso; first | contradiction | omega))) | (refine J_ifb xR ?_ ?_ <;> (intro hgb; subst hgb)) | (refine J_ifb xR ?_ ?_ <;> intro _) | fail)) | refine J_draw (id := 13) [0, 1, 2, 3, 4, 5, 6, 7, 8] [9] mixed xC xD xD ?_ | refine J_draw (id := 14) [0, 1, 2, 3, 4, 5, 6, 7, 8, 10, 9, 11, 12] [13] mixed xC xD xD ?_ | fail))
  exact J_ret2 rfl (by rfl) (by rfl) fun w H => ⟨_, ⟨rfl, rfl⟩, H.sel .nil⟩
theorem keep_void (sp : Nat) (x : Value) (c : Int) (cs : List Value) (hl : cs.length = 13) : Pact Tryz.prog 39 #[.pointer (some ⟨sp, 0, none⟩), .agg cs.toArray] (fun _ => True) [pts sp [x, .map none, .int .i64 c] 76] (fun u L' => u = .tuple #[.int .i64 0, .int .i64 1] ∧ L' = [pts sp [x, .map none, .int .i64 c] 76]) := by
  refine pact Tryz.func39 rfl Tryz.ntmps39 rfl ?_
  intro W K _
  (repeat' (first | ((with_reducible apply gL); (first | refine yL0 ?_ | refine yL ?_ | ((with_reducible apply gL_go); (first | (refine JL_goq (isvoid_s sp x c) (hφ := xF) (h := ?_); rintro _ _ ⟨rfl, rfl⟩; try simp only [List.cons_append, List.nil_append]) | fail)) | (refine yM ?_; intro _) | ((with_reducible apply gL_lookup); (first | refine JL_p rfl xR xR (pe_lookup xR xR (tabM mtab_ok xR) xT (by first | apply hlook | apply hlook2 | rfl)) ?_ | refine JL_p rfl xR xR (pe_lookupK xR xR (tabM mtab_ok xR) xH (by first | apply hlook | apply hlook2 | rfl)) ?_ | fail)) | fail)) | ((with_reducible apply gD); (first | (refine JD_nil ?_; try simp only [List.cons_append, List.nil_append]) | (refine JD_bar ?_; try simp only [List.cons_append, List.nil_append]) | refine yD ?_ | ((with_reducible apply gD_go); (first | (refine JD_goq (isvoid_s sp x c) (hφ := xF) (h := ?_); rintro _ _ ⟨rfl, rfl⟩; try simp only [List.cons_append, List.nil_append]) | fail)) | (refine yE ?_; intro _) | ((with_reducible apply gD_mapUpdate); (first | refine JD_mapSet xR xR xR (tabM mtab_ok xR) xT xR ?_ | fail)) | fail)) | refine yJ ?_ | ((with_reducible apply gJ_if); (first | (refine J_if xR ?_ ?_ <;> intro _ <;> (try (exfalso; first | contradiction | omega))) | (refine J_ifb xR ?_ ?_ <;> (intro hgb; subst hgb)) | (refine J_ifb xR ?_ ?_ <;> intro _) | fail)) | refine J_draw (id := 13) [0, 1, 2, 3, 4, 5, 6, 7, 8] [9] mixed xC xD xD ?_ | refine J_draw (id := 14) [0, 1, 2, 3, 4, 5, 6, 7, 8, 10, 9, 11, 12] [13] mixed xC xD xD ?_ | fail))
  exact J_ret2 rfl (by rfl) (by rfl) fun w H => ⟨_, ⟨rfl, rfl⟩, H.sel xZ⟩
theorem get_nil (id : Int) : Pact Tryz.prog 45 #[.pointer none, .int .i64 id] (fun _ => True) [] (ret0 (.tuple #[.agg (atC zAt).toArray, .int .i64 1])) := by
  refine pact Tryz.func45 rfl Tryz.ntmps45 rfl ?_
  intro W K _
  (repeat' (first | ((with_reducible apply gL); (first | refine yL0 ?_ | refine yL ?_ | ((with_reducible apply gL_go); (first | (refine JL_goq (find_nil id) (hφ := xF) (h := ?_); rintro _ _ ⟨rfl, rfl⟩; try simp only [List.cons_append, List.nil_append]) | fail)) | (refine yM ?_; intro _) | fail)) | refine yJ ?_ | ((with_reducible apply gJ_if); (first | (refine J_if xR ?_ ?_ <;> intro _ <;> (try (exfalso; first | contradiction | omega))) | (refine J_ifb xR ?_ ?_ <;> (intro hgb; subst hgb)) | (refine J_ifb xR ?_ ?_ <;> intro _) | fail)) | fail))
  exact J_retC1 (cs := zC) rfl (by rfl) (by rfl) xA (by rfl) fun w H => ⟨_, ⟨rfl, rfl⟩, H.sel .nil⟩
theorem get_void (sp : Nat) (x : Value) (c id : Int) : Pact Tryz.prog 45 #[.pointer (some ⟨sp, 0, none⟩), .int .i64 id] (fun _ => True) [pts sp [x, .map none, .int .i64 c] 76] (fun u L' => u = .tuple #[.agg (atC zAt).toArray, .int .i64 1] ∧ L' = [pts sp [x, .map none, .int .i64 c] 76]) := by
  refine pact Tryz.func45 rfl Tryz.ntmps45 rfl ?_
  intro W K _
  (repeat' (first | ((with_reducible apply gL); (first | refine yL0 ?_ | refine yL ?_ | ((with_reducible apply gL_go); (first | (refine JL_goq (find_void sp x c id) (hφ := xF) (h := ?_); rintro _ _ ⟨rfl, rfl⟩; try simp only [List.cons_append, List.nil_append]) | fail)) | (refine yM ?_; intro _) | fail)) | refine yJ ?_ | ((with_reducible apply gJ_if); (first | (refine J_if xR ?_ ?_ <;> intro _ <;> (try (exfalso; first | contradiction | omega))) | (refine J_ifb xR ?_ ?_ <;> (intro hgb; subst hgb)) | (refine J_ifb xR ?_ ?_ <;> intro _) | fail)) | fail))
  exact J_retC1 (cs := zC) rfl (by rfl) (by rfl) xA (by rfl) fun w H => ⟨_, ⟨rfl, rfl⟩, H.sel xZ⟩
theorem free_nil (id : Int) : Pact Tryz.prog 32 #[.pointer none, .int .i64 id] (fun _ => True) [] (ret0 (.int .i64 1)) := by
  refine pact Tryz.func32 rfl Tryz.ntmps32 rfl ?_
  intro W K _
  (repeat' (first | ((with_reducible apply gL); (first | refine yL0 ?_ | refine yL ?_ | ((with_reducible apply gL_go); (first | (refine JL_goq (find_nil id) (hφ := xF) (h := ?_); rintro _ _ ⟨rfl, rfl⟩; try simp only [List.cons_append, List.nil_append]) | fail)) | fail)) | ((with_reducible apply gD); (first | (refine JD_nil ?_; try simp only [List.cons_append, List.nil_append]) | (refine JD_bar ?_; try simp only [List.cons_append, List.nil_append]) | refine yD ?_ | fail)) | refine yJ ?_ | ((with_reducible apply gJ_if); (first | (refine J_if xR ?_ ?_ <;> intro _ <;> (try (exfalso; first | contradiction | omega))) | (refine J_ifb xR ?_ ?_ <;> (intro hgb; subst hgb)) | (refine J_ifb xR ?_ ?_ <;> intro _) | fail)) | refine J_draw (id := 7) [0, 1, 2, 3, 4, 5, 6, 7] [8] mixed xC xD xD ?_ | fail))
  exact J_ret1 rfl (by rfl) fun w H => ⟨_, ⟨rfl, rfl⟩, H.sel .nil⟩
theorem free_void (sp : Nat) (x : Value) (c id : Int) : Pact Tryz.prog 32 #[.pointer (some ⟨sp, 0, none⟩), .int .i64 id] (fun _ => True) [pts sp [x, .map none, .int .i64 c] 76] (fun u L' => u = .int .i64 1 ∧ L' = [pts sp [x, .map none, .int .i64 c] 76]) := by
  refine pact Tryz.func32 rfl Tryz.ntmps32 rfl ?_
  intro W K _
  (repeat' (first | ((with_reducible apply gL); (first | refine yL0 ?_ | refine yL ?_ | ((with_reducible apply gL_go); (first | (refine JL_goq (find_void sp x c id) (hφ := xF) (h := ?_); rintro _ _ ⟨rfl, rfl⟩; try simp only [List.cons_append, List.nil_append]) | fail)) | fail)) | ((with_reducible apply gD); (first | (refine JD_nil ?_; try simp only [List.cons_append, List.nil_append]) | (refine JD_bar ?_; try simp only [List.cons_append, List.nil_append]) | refine yD ?_ | fail)) | refine yJ ?_ | ((with_reducible apply gJ_if); (first | (refine J_if xR ?_ ?_ <;> intro _ <;> (try (exfalso; first | contradiction | omega))) | (refine J_ifb xR ?_ ?_ <;> (intro hgb; subst hgb)) | (refine J_ifb xR ?_ ?_ <;> intro _) | fail)) | refine J_draw (id := 7) [0, 1, 2, 3, 4, 5, 6, 7] [8] mixed xC xD xD ?_ | fail))
  exact J_ret1 rfl (by rfl) fun w H => ⟨_, ⟨rfl, rfl⟩, H.sel xZ⟩
theorem count_nil (id : Int) : Pact Tryz.prog 30 #[.pointer none, .int .i64 id] (fun _ => True) [] (ret0 (.int .i64 0)) := by
  refine pact Tryz.func30 rfl Tryz.ntmps30 rfl ?_
  intro W K _
  (repeat' (first | ((with_reducible apply gL); (first | refine yL0 ?_ | refine yL ?_ | ((with_reducible apply gL_go); (first | (refine JL_goq (find_nil id) (hφ := xF) (h := ?_); rintro _ _ ⟨rfl, rfl⟩; try simp only [List.cons_append, List.nil_append]) | fail)) | fail)) | refine yJ ?_ | ((with_reducible apply gJ_if); (first | (refine J_if xR ?_ ?_ <;> intro _ <;> (try (exfalso; first | contradiction | omega))) | (refine J_ifb xR ?_ ?_ <;> (intro hgb; subst hgb)) | (refine J_ifb xR ?_ ?_ <;> intro _) | fail)) | fail))
  exact J_ret1 rfl (by rfl) fun w H => ⟨_, ⟨rfl, rfl⟩, H.sel .nil⟩
theorem count_void (sp : Nat) (x : Value) (c id : Int) : Pact Tryz.prog 30 #[.pointer (some ⟨sp, 0, none⟩), .int .i64 id] (fun _ => True) [pts sp [x, .map none, .int .i64 c] 76] (fun u L' => u = .int .i64 0 ∧ L' = [pts sp [x, .map none, .int .i64 c] 76]) := by
  refine pact Tryz.func30 rfl Tryz.ntmps30 rfl ?_
  intro W K _
  (repeat' (first | ((with_reducible apply gL); (first | refine yL0 ?_ | refine yL ?_ | ((with_reducible apply gL_go); (first | (refine JL_goq (find_void sp x c id) (hφ := xF) (h := ?_); rintro _ _ ⟨rfl, rfl⟩; try simp only [List.cons_append, List.nil_append]) | fail)) | fail)) | refine yJ ?_ | ((with_reducible apply gJ_if); (first | (refine J_if xR ?_ ?_ <;> intro _ <;> (try (exfalso; first | contradiction | omega))) | (refine J_ifb xR ?_ ?_ <;> (intro hgb; subst hgb)) | (refine J_ifb xR ?_ ?_ <;> intro _) | fail)) | fail))
  exact J_ret1 rfl (by rfl) fun w H => ⟨_, ⟨rfl, rfl⟩, H.sel xZ⟩
theorem len_nil : Pact Tryz.prog 31 #[.pointer none] (fun _ => True) [] (ret0 (.int .i64 0)) := by
  refine pact Tryz.func31 rfl Tryz.ntmps31 rfl ?_
  intro W K _
  (repeat' (first | ((with_reducible apply gL); (first | refine yL0 ?_ | refine yL ?_ | ((with_reducible apply gL_go); (first | (refine JL_goq (isnil_s) (hφ := xF) (h := ?_); rintro _ _ ⟨rfl, rfl⟩; try simp only [List.cons_append, List.nil_append]) | fail)) | fail)) | refine yJ ?_ | ((with_reducible apply gJ_if); (first | (refine J_if xR ?_ ?_ <;> intro _ <;> (try (exfalso; first | contradiction | omega))) | (refine J_ifb xR ?_ ?_ <;> (intro hgb; subst hgb)) | (refine J_ifb xR ?_ ?_ <;> intro _) | fail)) | fail))
  exact J_ret1 rfl (by rfl) fun w H => ⟨_, ⟨rfl, rfl⟩, H.sel .nil⟩
theorem len_void (sp : Nat) (x : Value) (c : Int) : Pact Tryz.prog 31 #[.pointer (some ⟨sp, 0, none⟩)] (fun _ => True) [pts sp [x, .map none, .int .i64 c] 76] (fun u L' => u = .int .i64 0 ∧ L' = [pts sp [x, .map none, .int .i64 c] 76]) := by
  refine pact Tryz.func31 rfl Tryz.ntmps31 rfl ?_
  intro W K _
  (repeat' (first | ((with_reducible apply gL); (first | refine yL0 ?_ | refine yL ?_ | ((with_reducible apply gL_go); (first | (refine JL_goq (isvoid_s sp x c) (hφ := xF) (h := ?_); rintro _ _ ⟨rfl, rfl⟩; try simp only [List.cons_append, List.nil_append]) | fail)) | fail)) | refine yJ ?_ | ((with_reducible apply gJ_if); (first | (refine J_if xR ?_ ?_ <;> intro _ <;> (try (exfalso; first | contradiction | omega))) | (refine J_ifb xR ?_ ?_ <;> (intro hgb; subst hgb)) | (refine J_ifb xR ?_ ?_ <;> intro _) | fail)) | fail))
  exact J_ret1 rfl (by rfl) fun w H => ⟨_, ⟨rfl, rfl⟩, H.sel xZ⟩
end Go.Proofs.YtnhabkipjmgaaaaGreat
namespace Go.Proofs.YtnhabkipjmgaaaaGreat
set_option linter.unusedSimpArgs false
set_option linter.unusedVariables false
set_option maxRecDepth 20000
set_option maxHeartbeats 4000000
open Go.RowKit Go.Pm

open T (Pf PfN Rt Ah pfC)
abbrev tbC (sp : Nat) (lim : Int) (tb : Nat) : List Value := [.pointer (some ⟨sp, 0, none⟩), .int .i64 lim, .pointer (some ⟨tb, 0, none⟩)]
/-- An update. -/
structure Up where
  wa : Option Addr
  wc : Nat
  wd : List Pf
  ta : Option Addr
  tc : Nat
  td : List Pf
  d : At
  f : Int
def upC (u : Up) : List Value := [.slice u.wa u.wd.length u.wc, .slice u.ta u.td.length u.tc, .int .i64 u.d.origin, .slice u.d.pa u.d.path.length u.d.pc, .int .u32 u.d.next, .bool u.d.hasMed, .int .u32 u.d.med, .bool u.d.hasLocal, .int .u32 u.d.loc, .bool u.d.atomic, .bool u.d.hasMaker, .int .u32 u.d.makerAS, .int .u32 u.d.maker, .slice u.d.ca u.d.comms.length u.d.cc, .slice u.d.oa u.d.others.length u.d.oc, .int .i64 u.f]
structure UpV (w : World) (u : Up) : Prop where
  wd : Vw w (.slice u.wa u.wd.length u.wc) 2 u.wd.length (flat pfC u.wd)
  td : Vw w (.slice u.ta u.td.length u.tc) 2 u.td.length (flat pfC u.td)
  d : AtV w u.d
structure UpN (u : Up) : Prop where
  wd : ∀ p ∈ u.wd, PfN p
  td : ∀ p ∈ u.td, PfN p
  d : AtF u.d
  wl : u.wd.length ≤ 1000
  tl : u.td.length ≤ 1000
theorem tst_of {F : FuncId} {caps : List Value} {q : Pf → Bool} {φ : World → Prop} {Ls : List HP} (ho : ownB Tryz.prog F = true) (h : ∀ p, PfN p → Pact Tryz.prog F (.agg (pfC p).toArray :: caps).toArray φ Ls (fun u L' => u = .bool (q p) ∧ L' = Ls)) : TstP F caps q φ (sats Ls) := ⟨ho, fun p hp W K w hK H => by
  have H2 : Ow W K (Ls ++ []) w := H.flat .here
  rw [List.append_nil] at H2
  refine (h p hp W K w hK H2).mono fun e w' h2 => ?_
  obtain ⟨u, L', ⟨rfl, rfl⟩, h5, h6⟩ := h2
  refine ⟨_, _, ⟨rfl, rfl⟩, h5, ?_⟩
  exact Ow.unflat (As := L') h6 (by have := Sb.all L' []; rwa [List.append_nil] at this)⟩
theorem delete_f (Ls : List HP) (a : Option Addr) (c n : Nat) (es : List Pf) (hes : es.length = n) (F : FuncId) (caps : List Value) (q : Pf → Bool) (φ : World → Prop) (hT : TstP F caps q φ (sats Ls)) (hn : ∀ o ∈ es, PfN o) (hl : n ≤ 1000000) :
    Pact Tryz.prog 64 #[.slice a n c, .func (.func F) #[] caps.toArray] φ (Ls ++ [Ar 41 2 pfC (.slice a n c) es]) (fun v L' => ∃ a' c', v = .slice a' (keepP q es).length c' ∧ L' = Ls ++ [Ar 41 2 pfC (.slice a' (keepP q es).length c') (keepP q es)]) := fun W K w hK H => by
  subst hes
  have H2 : Ow W K [sats Ls, Ar 41 2 pfC (.slice a es.length c) es] w := Ow.unflat (As := Ls) H (Sb.all _ _)
  refine (delete_p a c es F caps q φ (sats Ls) hT hn hl W K w hK H2).mono fun e w' h => ?_
  obtain ⟨u, L', ⟨a', c', rfl, rfl⟩, h5, h6⟩ := h
  exact ⟨_, _, ⟨a', c', rfl, rfl⟩, h5, h6.flat .here⟩
def nrt (p : Pf) : Bool := !decide (Rt p)
theorem told1_s (p : Pf) (hp : PfN p) : Pact Tryz.prog 66 #[.agg (pfC p).toArray] (fun _ => True) [] (fun u L' => u = .bool (nrt p) ∧ L' = []) := by
  refine pact Tryz.func66 rfl Tryz.ntmps66 rfl ?_
  intro W K _
  unfold nrt
  rcases hr : decide (Rt p) with _ | _
  all_goals (
    have k := T.right_b p hp _ hr
    (repeat' (first | ((with_reducible apply gL); (first | refine yL0 ?_ | refine yL ?_ | ((with_reducible apply gL_go); (first | (refine JL_goq (k) (hφ := xF) (h := ?_); rintro _ _ ⟨rfl, rfl⟩; try simp only [List.cons_append, List.nil_append]) | fail)) | (refine yM ?_; intro _) | fail)) | refine yJ ?_ | fail))
    exact J_ret1 rfl (by rfl) fun w H => ⟨_, ⟨rfl, rfl⟩, H.sel .nil⟩)
end Go.Proofs.YtnhabkipjmgaaaaGreat
namespace Go.Proofs.YtnhabkipjmgaaaaGreat
set_option linter.unusedSimpArgs false
set_option linter.unusedVariables false
set_option maxRecDepth 20000
set_option maxHeartbeats 4000000
open Go.RowKit Go.Pm

open T (Pf PfN Rt Ah pfC)
def toldF (u : Up) : List Pf := ddP (srtP (keepP nrt u.td))
theorem told_s (u : Up) (hu : UpN u) : Pact Tryz.prog 35 #[.agg (upC u).toArray] (fun w => UpV w u) [] (fun v L' => ∃ (L : List Pf) (a : Option Addr) (c : Nat), L = (if okN u.d.nf then toldF u else []) ∧ v = .slice a L.length c ∧ L' = [Ar 41 2 pfC (.slice a L.length c) L]) := by
  refine pact Tryz.func35 rfl Tryz.ntmps35 rfl ?_
  intro W K hK
  have hkl := keepP_len nrt u.td
  have htl := hu.tl
  have hc := check_s u.d hu.d
  rcases hok : okN u.d.nf with _ | _
  · rw [hok] at hc
    (repeat' (first | ((with_reducible apply gL); (first | refine yL0 ?_ | refine yL ?_ | ((with_reducible apply gL_go); (first | (refine JL_goq (hc) (hφ := (by (try simp only [List.cons_append, List.nil_append]); exact fun w hr => (hK w hr.1).d)) (h := ?_); rintro _ _ ⟨rfl, rfl⟩; try simp only [List.cons_append, List.nil_append]) | fail)) | (refine yM ?_; intro _) | fail)) | refine yJ ?_ | ((with_reducible apply gJ_if); (first | (refine J_if xR ?_ ?_ <;> intro _ <;> (try (exfalso; first | contradiction | omega))) | (refine J_ifb xR ?_ ?_ <;> (intro hgb; subst hgb)) | (refine J_ifb xR ?_ ?_ <;> intro _) | fail)) | fail))
    exact J_ret1 rfl (by rfl) fun w H => ⟨_, ⟨[], none, 0, rfl, rfl, rfl⟩, (Ow.arNil (e := 41) (sz := 2) (enc := pfC) H).sel xZ⟩
  · rw [hok] at hc
    have hT : TstP 66 [] nrt (fun _ => True) (sats []) := tst_of (by decide +kernel) told1_s
    (repeat' (first | ((with_reducible apply gL); (first | refine yL0 ?_ | refine yL ?_ | ((with_reducible apply gL_go); (first | (refine JL_goq (hc) (hφ := (by (try simp only [List.cons_append, List.nil_append]); exact fun w hr => (hK w hr.1).d)) (h := ?_); rintro _ _ ⟨rfl, rfl⟩; try simp only [List.cons_append, List.nil_append]) | (refine JL_goq (clone_p u.ta u.tc u.td (by omega)) (hφ := (by (try simp only [List.cons_append, List.nil_append]); exact fun w hr => (hK w hr.1).td)) (h := ?_); rintro _ _ ⟨a, c, rfl, rfl⟩; try simp only [List.cons_append, List.nil_append]) | fail)) | (refine yM ?_; intro _) | fail)) | refine yJ ?_ | ((with_reducible apply gJ_if); (first | (refine J_if xR ?_ ?_ <;> intro _ <;> (try (exfalso; first | contradiction | omega))) | (refine J_ifb xR ?_ ?_ <;> (intro hgb; subst hgb)) | (refine J_ifb xR ?_ ?_ <;> intro _) | fail)) | fail))
    have kd := delete_f [] a c _ u.td rfl 66 [] nrt (fun _ => True) hT hu.td (by omega)
    simp only [List.nil_append] at kd
    (repeat' (first | ((with_reducible apply gL); (first | refine yL0 ?_ | refine yL ?_ | ((with_reducible apply gL_go); (first | (refine JL_goq (kd) (hφ := xF) (h := ?_); rintro _ _ ⟨a2, c2, rfl, rfl⟩; try simp only [List.cons_append, List.nil_append]) | fail)) | (refine yM ?_; intro _) | fail)) | refine yJ ?_ | ((with_reducible apply gJ_if); (first | (refine J_if xR ?_ ?_ <;> intro _ <;> (try (exfalso; first | contradiction | omega))) | (refine J_ifb xR ?_ ?_ <;> (intro hgb; subst hgb)) | (refine J_ifb xR ?_ ?_ <;> intro _) | fail)) | fail))
    (repeat' (first | ((with_reducible apply gL); (first | refine yL0 ?_ | refine yL ?_ | ((with_reducible apply gL_go); (first | (refine JL_goq (sort_s a2 c2 _ (keepP nrt u.td) rfl (by omega)) (hφ := xF) (h := ?_); rintro _ _ ⟨rfl, rfl⟩; try simp only [List.cons_append, List.nil_append]) | fail)) | (refine yM ?_; intro _) | fail)) | refine yJ ?_ | ((with_reducible apply gJ_if); (first | (refine J_if xR ?_ ?_ <;> intro _ <;> (try (exfalso; first | contradiction | omega))) | (refine J_ifb xR ?_ ?_ <;> (intro hgb; subst hgb)) | (refine J_ifb xR ?_ ?_ <;> intro _) | fail)) | fail))
    have kc := compact_p a2 c2 _ (srtP (keepP nrt u.td)) (srtP_len _) (by omega)
    (repeat' (first | ((with_reducible apply gL); (first | refine yL0 ?_ | refine yL ?_ | ((with_reducible apply gL_go); (first | (refine JL_goq (kc) (hφ := xF) (h := ?_); rintro _ _ ⟨a3, c3, rfl, rfl⟩; try simp only [List.cons_append, List.nil_append]) | fail)) | (refine yM ?_; intro _) | fail)) | refine yJ ?_ | ((with_reducible apply gJ_if); (first | (refine J_if xR ?_ ?_ <;> intro _ <;> (try (exfalso; first | contradiction | omega))) | (refine J_ifb xR ?_ ?_ <;> (intro hgb; subst hgb)) | (refine J_ifb xR ?_ ?_ <;> intro _) | fail)) | fail))
    exact J_ret1 rfl (by rfl) fun w H => ⟨_, ⟨toldF u, a3, c3, rfl, rfl, rfl⟩, H.sel xZ⟩
end Go.Proofs.YtnhabkipjmgaaaaGreat
namespace Go.Proofs.YtnhabkipjmgaaaaGreat
set_option linter.unusedSimpArgs false
set_option linter.unusedVariables false
set_option maxRecDepth 20000
set_option maxHeartbeats 4000000
open Go.RowKit Go.Pm

open T (Pf PfN Rt Ah pfC)
def gnT (E : List T.Ent) (L : List Pf) (p : Pf) : Bool := !(T.getL E p).isSome || decide (p ∈ L)
theorem gone1_s (b sp tb g h : Nat) (lim : Int) (E : List T.Ent) (a : Option Addr) (c : Nat) (L : List Pf) (hL : L.Pairwise fun x y => Ah x y) (hl : L.length ≤ 1000000) (p : Pf) (hp : PfN p) : Pact Tryz.prog 69 (.agg (pfC p).toArray :: [.pointer (some ⟨g, 0, none⟩), .pointer (some ⟨h, 0, none⟩)]).toArray (fun w => w.cell? ⟨g, 0, none⟩ = some (.pointer (some ⟨b, 0, none⟩)) ∧ w.cell? ⟨h, 0, none⟩ = some (.slice a L.length c)) [pts b (tbC sp lim tb) 72, T.trA tb E, Ar 41 2 pfC (.slice a L.length c) L]
    (fun u L' => u = .bool (gnT E L p) ∧ L' = [pts b (tbC sp lim tb) 72, T.trA tb E, Ar 41 2 pfC (.slice a L.length c) L]) := by
  refine pact Tryz.func69 rfl Tryz.ntmps69 rfl ?_
  intro W K hφ
  have h1 : Kn K (fun w => w.cell? ⟨g, 0, none⟩ = some (.pointer (some ⟨b, 0, none⟩))) := hφ.left
  have h2 : Kn K (fun w => w.cell? ⟨h, 0, none⟩ = some (.slice a L.length c)) := hφ.right
  have kb := bin_s a c _ L rfl p hL hl
  unfold gnT
  rcases hg : (T.getL E p).isSome with _ | _
  all_goals (
    have k := T.get_old tb E p hp _ rfl _ hg
    (repeat' (first | ((with_reducible apply gL); (first | refine yL0 ?_ | refine yL ?_ | ((with_reducible apply gL_go); (first | (refine JL_goq (k) (hφ := xF) (h := ?_); rintro _ _ ⟨rfl, rfl⟩; try simp only [List.cons_append, List.nil_append]) | (refine JL_goq (kb) (hφ := (by (try simp only [List.cons_append, List.nil_append]); exact fun w hr => Src.ar xA w hr)) (h := ?_); rintro _ _ ⟨i, rfl, rfl⟩; try simp only [List.cons_append, List.nil_append]) | fail)) | (refine yM ?_; intro _) | ((with_reducible apply gL_gd); (first | (refine JL_guard xR xR ?_ ?_ <;> intro _ <;> (try (exfalso; first | contradiction | omega))) | (refine JL_guardb xR xR ?_ ?_ <;> (intro hgb; subst hgb)) | (refine JL_guardb xR xR ?_ ?_ <;> (intro hgb; fail_if_success (have : type_of% hgb := rfl))) | fail)) | fail)) | ((with_reducible apply gD); (first | (refine JD_nil ?_; try simp only [List.cons_append, List.nil_append]) | (refine JD_bar ?_; try simp only [List.cons_append, List.nil_append]) | refine yD ?_ | ((with_reducible apply gD_go); (first | (refine JD_goq (k) (hφ := xF) (h := ?_); rintro _ _ ⟨rfl, rfl⟩; try simp only [List.cons_append, List.nil_append]) | (refine JD_goq (kb) (hφ := (by (try simp only [List.cons_append, List.nil_append]); exact fun w hr => Src.ar xA w hr)) (h := ?_); rintro _ _ ⟨i, rfl, rfl⟩; try simp only [List.cons_append, List.nil_append]) | fail)) | (refine yE ?_; intro _) | fail)) | refine yJ ?_ | refine J_draw (id := 1) [0, 1, 2, 3, 4, 5, 6, 7, 8, 9, 10] [11] mixed xC xD xD ?_ | fail))
    exact J_ret1 rfl (by rfl) fun w H => ⟨_, ⟨rfl, rfl⟩, H.sel xZ⟩)
def goneF (E : List T.Ent) (L wd : List Pf) : List Pf := ddP (srtP (keepP (gnT E L) wd))
theorem gone_s (b sp tb : Nat) (lim : Int) (E : List T.Ent) (a : Option Addr) (c n : Nat) (L : List Pf) (hn : L.length = n) (hL : L.Pairwise fun x y => Ah x y) (hl : n ≤ 1000) (u : Up) (hu : UpN u) : Pact Tryz.prog 36 #[.pointer (some ⟨b, 0, none⟩), .agg (upC u).toArray, .slice a n c] (fun w => UpV w u) [pts b (tbC sp lim tb) 72, T.trA tb E, Ar 41 2 pfC (.slice a n c) L]
    (fun v L' => ∃ (a' : Option Addr) (c' : Nat), v = .slice a' (goneF E L u.wd).length c' ∧ L' = [pts b (tbC sp lim tb) 72, T.trA tb E, Ar 41 2 pfC (.slice a n c) L, Ar 41 2 pfC (.slice a' (goneF E L u.wd).length c') (goneF E L u.wd)]) := by
  subst hn
  refine pact Tryz.func36 rfl Tryz.ntmps36 rfl ?_
  intro W K hK
  have hwl := hu.wl
  have hkl := keepP_len (gnT E L) u.wd
  (repeat' (first | ((with_reducible apply gL); (first | refine yL0 ?_ | refine yL ?_ | ((with_reducible apply gL_go); (first | (refine JL_goq (clone_p u.wa u.wc u.wd (by omega)) (hφ := (by (try simp only [List.cons_append, List.nil_append]); exact fun w hr => (hK w hr.1).wd)) (h := ?_); rintro _ _ ⟨a1, c1, rfl, rfl⟩; try simp only [List.cons_append, List.nil_append]) | fail)) | (refine yM ?_; intro _) | fail)) | refine yJ ?_ | fail))
  rename_i g ub h
  have hT : TstP 69 [.pointer (some ⟨g, 0, none⟩), .pointer (some ⟨h, 0, none⟩)] (gnT E L) _ (sats [pts b (tbC sp lim tb) 72, T.trA tb E, Ar 41 2 pfC (.slice a L.length c) L]) := tst_of (by decide +kernel) (fun p hp => gone1_s b sp tb g h lim E a c L hL (by omega) p hp)
  have kd := delete_f [pts b (tbC sp lim tb) 72, T.trA tb E, Ar 41 2 pfC (.slice a L.length c) L] a1 c1 _ u.wd rfl 69 _ (gnT E L) _ hT hu.wd (by omega)
  simp only [List.cons_append, List.nil_append] at kd
  (repeat' (first | ((with_reducible apply gL); (first | refine yL0 ?_ | refine yL ?_ | ((with_reducible apply gL_go); (first | (refine JL_goq (kd) (hφ := (by (try simp only [List.cons_append, List.nil_append]); exact fun w hr => ⟨hr.cell xA rfl, hr.cell xA rfl⟩)) (h := ?_); rintro _ _ ⟨a2, c2, rfl, rfl⟩; try simp only [List.cons_append, List.nil_append]) | fail)) | (refine yM ?_; intro _) | fail)) | refine yJ ?_ | fail))
  (repeat' (first | ((with_reducible apply gL); (first | refine yL0 ?_ | refine yL ?_ | ((with_reducible apply gL_go); (first | (refine JL_goq (sort_s a2 c2 _ (keepP (gnT E L) u.wd) rfl (by omega)) (hφ := xF) (h := ?_); rintro _ _ ⟨rfl, rfl⟩; try simp only [List.cons_append, List.nil_append]) | fail)) | (refine yM ?_; intro _) | fail)) | refine yJ ?_ | fail))
  have kc := compact_p a2 c2 _ (srtP (keepP (gnT E L) u.wd)) (srtP_len _) (by omega)
  (repeat' (first | ((with_reducible apply gL); (first | refine yL0 ?_ | refine yL ?_ | ((with_reducible apply gL_go); (first | (refine JL_goq (kc) (hφ := xF) (h := ?_); rintro _ _ ⟨a3, c3, rfl, rfl⟩; try simp only [List.cons_append, List.nil_append]) | fail)) | (refine yM ?_; intro _) | fail)) | refine yJ ?_ | fail))
  exact J_ret1 rfl (by rfl) fun w H => ⟨_, ⟨a3, c3, rfl, rfl⟩, H.sel xZ⟩
end Go.Proofs.YtnhabkipjmgaaaaGreat
namespace Go.Proofs.YtnhabkipjmgaaaaGreat
set_option linter.unusedSimpArgs false
set_option linter.unusedVariables false
set_option maxRecDepth 20000
set_option maxHeartbeats 4000000
open Go.RowKit Go.Pm

open T (Pf PfN Rt Ah pfC)
def freshN (E : List T.Ent) (L : List Pf) : Nat := (L.filter fun p => !(T.getL E p).isSome).length
theorem freshN_snoc (E : List T.Ent) {L : List Pf} {k : Nat} {p : Pf} (h : L[k]? = some p) : freshN E (L.take (k + 1)) = freshN E (L.take k) + if (T.getL E p).isSome then 0 else 1 := by
  unfold freshN
  rw [take_snoc h, List.filter_append, List.length_append]
  congr 1
  cases hg : T.getL E p <;> simp [List.filter_cons, hg]
theorem fresh_s (b tb : Nat) (E : List T.Ent) (a : Option Addr) (c n : Nat) (L : List Pf) (hn : L.length = n) (hl : n ≤ 1000) (hp : ∀ p ∈ L, PfN p) : Pact Tryz.prog 38 #[.pointer (some ⟨b, 0, none⟩), .slice a n c] (fun w => w.cell? ⟨b, 0 + 2, none⟩ = some (.pointer (some ⟨tb, 0, none⟩))) [T.trA tb E, Ar 41 2 pfC (.slice a n c) L]
    (fun v L' => v = .int .i64 (freshN E L) ∧ L' = [T.trA tb E, Ar 41 2 pfC (.slice a n c) L]) := by
  subst hn
  refine pact Tryz.func38 rfl Tryz.ntmps38 rfl ?_
  intro W K hK
  (repeat' (first | ((with_reducible apply gL); (first | refine yL0 ?_ | refine yL ?_ | (refine yM ?_; intro _) | fail)) | ((with_reducible apply gD); (first | (refine JD_nil ?_; try simp only [List.cons_append, List.nil_append]) | (refine JD_bar ?_; try simp only [List.cons_append, List.nil_append]) | refine yD ?_ | (refine yE ?_; intro _) | fail)) | refine yJ ?_ | ((with_reducible apply gJ_if); (first | (refine J_if xR ?_ ?_ <;> intro _ <;> (try (exfalso; first | contradiction | omega))) | (refine J_ifb xR ?_ ?_ <;> (intro hgb; subst hgb)) | (refine J_ifb xR ?_ ?_ <;> intro _) | fail)) | refine J_draw (id := 5) [0, 1, 2, 3, 4, 5, 6, 7, 8, 9, 10] [11] mixed xC xD xD ?_ | fail))
  refine J_loop (α := Nat) 0 (fun x => L.length - x) (fun x => x ≤ L.length) (fun x => [(0, .pointer (some ⟨b, 0, none⟩)), (5, .int .i64 (freshN E (L.take x))), (10, .slice a L.length c), (11, .int .i64 L.length), (12, .int .i64 x)]) (fun _ => [T.trA tb E, Ar 41 2 pfC (.slice a L.length c) L]) (Nat.zero_le _) ⟨rfl, rfl, rfl, rfl, rfl, trivial⟩ (fun w H => H.sel xZ) ?_
  intro k hk
  by_cases hlt : k < L.length
  · obtain ⟨p, hs⟩ : ∃ p, L[k]? = some p := ⟨_, List.getElem?_eq_getElem hlt⟩
    have hsn := freshN_snoc E hs
    have hfl : freshN E (L.take k) ≤ k := by
      unfold freshN
      have := List.length_filter_le (fun p => !(T.getL E p).isSome) (L.take k)
      rw [List.length_take] at this
      omega
    rcases hg : (T.getL E p).isSome with _ | _
    all_goals (
      rw [hg] at hsn
      have kg := T.get_old tb E p (hp p (List.mem_of_getElem? hs)) _ rfl _ hg
      (repeat' (first | ((with_reducible apply gL); (first | refine yL0 ?_ | refine yL ?_ | (refine yM ?_; intro _) | fail)) | ((with_reducible apply gD); (first | (refine JD_nil ?_; try simp only [List.cons_append, List.nil_append]) | (refine JD_bar ?_; try simp only [List.cons_append, List.nil_append]) | refine yD ?_ | ((with_reducible apply gD_go); (first | (refine JD_goq (kg) (hφ := xF) (h := ?_); rintro _ _ ⟨rfl, rfl⟩; try simp only [List.cons_append, List.nil_append]) | fail)) | (refine yE ?_; intro _) | fail)) | refine yJ ?_ | ((with_reducible apply gJ_if); (first | (refine J_if xR ?_ ?_ <;> intro _ <;> (try (exfalso; first | contradiction | omega))) | (refine J_ifb xR ?_ ?_ <;> (intro hgb; subst hgb)) | (refine J_ifb xR ?_ ?_ <;> intro _) | fail)) | refine J_draw (id := 5) [0, 1, 2, 3, 4, 5, 6, 7, 8, 9, 10] [11] mixed xC xD xD ?_ | fail))
      refine J_again (k + 1) (by omega) (by omega) ⟨rfl, ?_, rfl, rfl, rfl, trivial⟩ (fun w H => H.sel xZ)
      rw [hsn]
      rfl)
  · obtain rfl : k = L.length := by omega
    rw [List.take_length]
    (repeat' (first | ((with_reducible apply gL); (first | refine yL0 ?_ | refine yL ?_ | (refine yM ?_; intro _) | fail)) | ((with_reducible apply gD); (first | (refine JD_nil ?_; try simp only [List.cons_append, List.nil_append]) | (refine JD_bar ?_; try simp only [List.cons_append, List.nil_append]) | refine yD ?_ | (refine yE ?_; intro _) | fail)) | refine yJ ?_ | ((with_reducible apply gJ_if); (first | (refine J_if xR ?_ ?_ <;> intro _ <;> (try (exfalso; first | contradiction | omega))) | (refine J_ifb xR ?_ ?_ <;> (intro hgb; subst hgb)) | (refine J_ifb xR ?_ ?_ <;> intro _) | fail)) | refine J_draw (id := 5) [0, 1, 2, 3, 4, 5, 6, 7, 8, 9, 10] [11] mixed xC xD xD ?_ | fail))
    exact J_ret1 rfl (by rfl) fun w H => ⟨_, ⟨rfl, rfl⟩, H.sel xZ⟩
end Go.Proofs.YtnhabkipjmgaaaaGreat
namespace Go.Proofs.YtnhabkipjmgaaaaGreat
set_option linter.unusedSimpArgs false
set_option linter.unusedVariables false
set_option maxRecDepth 20000
set_option maxHeartbeats 4000000
open Go.RowKit Go.Pm

open T (Pf PfN Rt Ah pfC)
abbrev rtL (b sp tb : Nat) (lim : Int) (E : List T.Ent) (S : List En) (c : Int) : List HP := [pts b (tbC sp lim tb) 72, T.trA tb E, stoA sp S c]
theorem free_o (B : Int) (hB : B ≤ 1000000000) (sp : Nat) (S S1 : List En) (c id : Int) (hs : StOk B S c) (h1 : (freeF S id).1 = S1) : Pact Tryz.prog 32 #[.pointer (some ⟨sp, 0, none⟩), .int .i64 id] (fun _ => True) [stoA sp S c] (fun u L' => u = .int .i64 (freeF S id).2 ∧ L' = [stoA sp S1 c]) := h1 ▸ free_s B hB sp S c id hs
theorem rdrop_s (B : Int) (hB : B ≤ 1000000000) (b sp tb : Nat) (lim : Int) (E : List T.Ent) (S S1 : List En) (c : Int) (p : Pf) (o : T.Vt) (hp : PfN p) (ho : T.oldV E p = o) (hn : E.length ≤ 4096) (hs : StOk B S c) (h1 : (freeF S o.1).1 = S1) : Pact Tryz.prog 40 #[.pointer (some ⟨b, 0, none⟩), .agg (pfC p).toArray] (fun _ => True) (rtL b sp tb lim E S c) (fun _ L' => L' = rtL b sp tb lim (T.dropL E p) S1 c) := by
  refine pact Tryz.func40 rfl Tryz.ntmps40 rfl ?_
  intro W K _
  obtain ⟨i, hi⟩ : ∃ i, (T.getL E p).isSome = i := ⟨_, rfl⟩
  have k := T.get_old tb E p hp o ho i hi
  have kd := T.drop_a tb E p hp hn
  have kf := free_o B hB sp S S1 c o.1 hs h1
  (repeat' (first | ((with_reducible apply gL); (first | refine yL0 ?_ | refine yL ?_ | (refine yM ?_; intro _) | fail)) | ((with_reducible apply gD); (first | (refine JD_nil ?_; try simp only [List.cons_append, List.nil_append]) | (refine JD_bar ?_; try simp only [List.cons_append, List.nil_append]) | refine yD ?_ | ((with_reducible apply gD_go); (first | (refine JD_goq (k) (hφ := xF) (h := ?_); rintro _ _ ⟨rfl, rfl⟩; try simp only [List.cons_append, List.nil_append]) | (refine JD_goq (kd) (hφ := xF) (h := ?_); rintro _ _ ⟨rfl, rfl⟩; try simp only [List.cons_append, List.nil_append]) | (refine JD_goq (kf) (hφ := xF) (h := ?_); rintro _ _ ⟨rfl, rfl⟩; try simp only [List.cons_append, List.nil_append]) | fail)) | (refine yE ?_; intro _) | fail)) | refine yJ ?_ | refine J_draw (id := 1) [0, 1, 2, 3, 4, 5, 6, 7, 8, 9, 10] [11] mixed xC xD xD ?_ | refine J_draw (id := 2) [0, 1, 2, 3, 4] [5] mixed xC xD xD ?_ | refine J_draw (id := 3) [0, 1, 2, 3, 4, 5] [6] mixed xC xD xD ?_ | fail))
  exact J_end0 rfl fun w H => ⟨_, rfl, H.sel xZ⟩
theorem rput_s (B : Int) (hB0 : 0 ≤ B) (hB : B ≤ 1000000) (b sp tb : Nat) (lim : Int) (E : List T.Ent) (S S1 S2 : List En) (c c1 id er : Int) (p : Pf) (o : T.Vt) (i : Bool) (d : At) (hd : AtF d) (hp : PfN p) (hr : Rt p) (ho : T.oldV E p = o) (hi : (T.getL E p).isSome = i) (hn : E.length < 4096) (hs : StOk B S c) (hk : keepF S c d.nf = ((S1, c1), id, er)) (hs1 : StOk (B + 1) S1 c1) (hid : I64 id) (hox : T.VN o) (h2 : (if i then (freeF S1 o.1).1 else S1) = S2) :
    Pact Tryz.prog 41 #[.pointer (some ⟨b, 0, none⟩), .agg (pfC p).toArray, .agg (atC d).toArray] (fun w => AtV w d) (rtL b sp tb lim E S c) (fun u L' => u = .bool (decide (o.1 ≠ id)) ∧ L' = rtL b sp tb lim (T.putL E p (id, false)) S2 c1) := by
  refine pact Tryz.func41 rfl Tryz.ntmps41 rfl ?_
  intro W K hK
  have k := T.get_old tb E p hp o ho i hi
  have kk := keep_s B hB0 (by omega) sp S c d hd hs
  rw [hk] at kk
  dsimp only at kk
  have kp := T.put_a tb E p (id, false) hp hid (by omega)
  rw [T.putE_ok hr (.inr hn)] at kp
  dsimp only at kp
  cases i with
  | false =>
    have e : S1 = S2 := h2
    subst e
    (repeat' (first | ((with_reducible apply gL); (first | refine yL0 ?_ | refine yL ?_ | (refine yM ?_; intro _) | fail)) | ((with_reducible apply gD); (first | (refine JD_nil ?_; try simp only [List.cons_append, List.nil_append]) | (refine JD_bar ?_; try simp only [List.cons_append, List.nil_append]) | refine yD ?_ | ((with_reducible apply gD_go); (first | (refine JD_goq (kk) (hφ := (by (try simp only [List.cons_append, List.nil_append]); exact fun w hr => hK w hr.1)) (h := ?_); rintro _ _ ⟨rfl, rfl⟩; try simp only [List.cons_append, List.nil_append]) | (refine JD_goq (k) (hφ := xF) (h := ?_); rintro _ _ ⟨rfl, rfl⟩; try simp only [List.cons_append, List.nil_append]) | (refine JD_goq (kp) (hφ := xF) (h := ?_); rintro _ _ ⟨rfl, rfl⟩; try simp only [List.cons_append, List.nil_append]) | fail)) | (refine yE ?_; intro _) | fail)) | refine yJ ?_ | ((with_reducible apply gJ_if); (first | (refine J_if xR ?_ ?_ <;> intro _ <;> (try (exfalso; first | contradiction | omega))) | (refine J_ifb xR ?_ ?_ <;> (intro hgb; subst hgb)) | (refine J_ifb xR ?_ ?_ <;> intro _) | fail)) | refine J_draw (id := 1) [0, 1, 2, 3, 4] [5, 6, 7, 8, 9, 10] mixed xC xD xD ?_ | refine J_draw (id := 2) [0, 1, 2, 3, 4, 5, 6, 7, 8, 9, 10] [11] mixed xC xD xD ?_ | refine J_draw (id := 3) [0, 1, 2, 3, 4, 5, 6] [7] mixed xC xD xD ?_ | refine J_draw (id := 5) [0, 1, 2, 3, 4, 5] [6] mixed xC xD xD ?_ | fail))
    exact J_ret1 rfl (by rfl) fun w H => ⟨_, ⟨rfl, rfl⟩, H.sel xZ⟩
  | true =>
    have kf := free_o (B + 1) (by omega) sp S1 S2 c1 o.1 hs1 h2
    (repeat' (first | ((with_reducible apply gL); (first | refine yL0 ?_ | refine yL ?_ | (refine yM ?_; intro _) | fail)) | ((with_reducible apply gD); (first | (refine JD_nil ?_; try simp only [List.cons_append, List.nil_append]) | (refine JD_bar ?_; try simp only [List.cons_append, List.nil_append]) | refine yD ?_ | ((with_reducible apply gD_go); (first | (refine JD_goq (kk) (hφ := (by (try simp only [List.cons_append, List.nil_append]); exact fun w hr => hK w hr.1)) (h := ?_); rintro _ _ ⟨rfl, rfl⟩; try simp only [List.cons_append, List.nil_append]) | (refine JD_goq (k) (hφ := xF) (h := ?_); rintro _ _ ⟨rfl, rfl⟩; try simp only [List.cons_append, List.nil_append]) | (refine JD_goq (kp) (hφ := xF) (h := ?_); rintro _ _ ⟨rfl, rfl⟩; try simp only [List.cons_append, List.nil_append]) | (refine JD_goq (kf) (hφ := xF) (h := ?_); rintro _ _ ⟨rfl, rfl⟩; try simp only [List.cons_append, List.nil_append]) | fail)) | (refine yE ?_; intro _) | fail)) | refine yJ ?_ | ((with_reducible apply gJ_if); (first | (refine J_if xR ?_ ?_ <;> intro _ <;> (try (exfalso; first | contradiction | omega))) | (refine J_ifb xR ?_ ?_ <;> (intro hgb; subst hgb)) | (refine J_ifb xR ?_ ?_ <;> intro _) | fail)) | refine J_draw (id := 1) [0, 1, 2, 3, 4] [5, 6, 7, 8, 9, 10] mixed xC xD xD ?_ | refine J_draw (id := 2) [0, 1, 2, 3, 4, 5, 6, 7, 8, 9, 10] [11] mixed xC xD xD ?_ | refine J_draw (id := 3) [0, 1, 2, 3, 4, 5, 6] [7] mixed xC xD xD ?_ | refine J_draw (id := 5) [0, 1, 2, 3, 4, 5] [6] mixed xC xD xD ?_ | fail))
    exact J_ret1 rfl (by rfl) fun w H => ⟨_, ⟨rfl, rfl⟩, H.sel xZ⟩
/-- Entries and the store. -/
structure Tb where
  E : List T.Ent
  S : List En
  c : Int
def dropStep (σ : Tb) (p : Pf) : Tb := ⟨T.dropL σ.E p, (freeF σ.S (T.oldV σ.E p).1).1, σ.c⟩
def dropF (σ : Tb) (ps : List Pf) : Tb := ps.foldl dropStep σ
theorem dropF_snoc (σ : Tb) (ps : List Pf) (p : Pf) : dropF σ (ps ++ [p]) = dropStep (dropF σ ps) p := by unfold dropF; rw [List.foldl_append]; rfl
theorem dropF_len : ∀ (ps : List Pf) (σ : Tb), (dropF σ ps).E.length ≤ σ.E.length
  | [], _ => Nat.le_refl _
  | p :: ps, σ => by
    have h1 := dropF_len ps (dropStep σ p)
    have h2 : (dropStep σ p).E.length ≤ σ.E.length := List.length_filter_le _ _
    exact Nat.le_trans h1 h2
theorem dropF_ok {B : Int} : ∀ (ps : List Pf) (σ : Tb), StOk B σ.S σ.c → StOk B (dropF σ ps).S (dropF σ ps).c
  | [], _, h => h
  | p :: ps, σ, h => dropF_ok ps (dropStep σ p) (freeF_ok h)
noncomputable def putStep (x : Nf) (σ : Tb) (p : Pf) : Tb :=
  ⟨T.putL σ.E p ((keepF σ.S σ.c x).2.1, false), if (T.getL σ.E p).isSome then (freeF (keepF σ.S σ.c x).1.1 (T.oldV σ.E p).1).1 else (keepF σ.S σ.c x).1.1, (keepF σ.S σ.c x).1.2⟩
noncomputable def putF (x : Nf) (σ : Tb) (ps : List Pf) : Tb := ps.foldl (putStep x) σ
theorem putF_snoc (x : Nf) (σ : Tb) (ps : List Pf) (p : Pf) : putF x σ (ps ++ [p]) = putStep x (putF x σ ps) p := by unfold putF; rw [List.foldl_append]; rfl
noncomputable def putNew (x : Nf) (σ : Tb) (p : Pf) : Bool := decide ((T.oldV σ.E p).1 ≠ (keepF σ.S σ.c x).2.1)
noncomputable def chg (x : Nf) : Tb → List Pf → List Pf
  | _, [] => []
  | σ, p :: r => (if putNew x σ p then [p] else []) ++ chg x (putStep x σ p) r
theorem chg_snoc (x : Nf) (p : Pf) : ∀ (ps : List Pf) (σ : Tb), chg x σ (ps ++ [p]) = chg x σ ps ++ (if putNew x (putF x σ ps) p then [p] else [])
  | [], σ => by
    show (if putNew x σ p then [p] else []) ++ [] = [] ++ _
    rw [List.append_nil, List.nil_append]
    rfl
  | y :: ps, σ => by
    simp only [List.cons_append, chg]
    rw [chg_snoc x p ps, List.append_assoc]
    rfl
theorem chg_len (x : Nf) : ∀ (ps : List Pf) (σ : Tb), (chg x σ ps).length ≤ ps.length
  | [], _ => Nat.le_refl _
  | y :: ps, σ => by
    have := chg_len x ps (putStep x σ y)
    simp only [chg, List.length_append, List.length_cons]
    split <;> simp <;> omega
theorem putF_len (x : Nf) : ∀ (ps : List Pf) (σ : Tb), T.Srt σ.E → (putF x σ ps).E.length ≤ σ.E.length + ps.length ∧ T.Srt (putF x σ ps).E
  | [], _, h => ⟨by simp [putF], h⟩
  | p :: ps, σ, h => by
    have h0 : T.Srt (putStep x σ p).E := T.srt_putL h
    have h1 := putF_len x ps (putStep x σ p) h0
    have h2 : (putStep x σ p).E.length ≤ σ.E.length + 1 := by
      show (T.putL _ _ _).length ≤ _
      rw [T.len_putL h]
      split <;> omega
    refine ⟨?_, h1.2⟩
    have h3 := h1.1
    show (putF x (putStep x σ p) ps).E.length ≤ _
    simp only [List.length_cons]
    omega
theorem keepF_id {B : Int} {S : List En} {c : Int} {x : Nf} (h : StOk B S c) : 0 ≤ (keepF S c x).2.1 ∧ (keepF S c x).2.1 ≤ B + 1 := by
  have hc := h.cnt
  unfold keepF
  split
  · dsimp only; omega
  · split
    · rename_i e hf
      obtain ⟨A, C, rfl, _, _⟩ := fndX_some hf
      have := h.ids e (by simp)
      dsimp only; omega
    · split <;> (dsimp only; omega)
theorem putStep_ok {B : Int} {x : Nf} (hx : NfN x) {σ : Tb} {p : Pf} (h : StOk B σ.S σ.c) (hB : 0 ≤ B) : StOk (B + 1) (putStep x σ p).S (putStep x σ p).c := by
  have h1 := keepF_ok h hB hx
  unfold putStep
  dsimp only
  split
  · exact freeF_ok h1
  · exact h1
theorem putF_ok {x : Nf} (hx : NfN x) : ∀ (ps : List Pf) (B : Int) (σ : Tb), StOk B σ.S σ.c → 0 ≤ B → StOk (B + ps.length) (putF x σ ps).S (putF x σ ps).c
  | [], B, σ, h, _ => by
    have : B + (([] : List Pf).length : Int) = B := by simp
    rw [this]; exact h
  | p :: ps, B, σ, h, hB => by
    have h1 := putF_ok hx ps (B + 1) (putStep x σ p) (putStep_ok hx h hB) (by omega)
    have : B + ((p :: ps).length : Int) = B + 1 + (ps.length : Int) := by simp; omega
    rw [this]
    exact h1
theorem oldV_n {E : List T.Ent} (hE : T.EOk E) (p : Pf) : T.VN (T.oldV E p) := by
  unfold T.oldV
  cases hg : T.getL E p with
  | none => show I64 0; unfold I64; decide
  | some x => exact (hE.e (p, x) ((T.getL_mem hE.s).1 hg)).2.2
/-- Away with them. -/
theorem away_s (B : Int) (hB : B ≤ 1000000000) (b sp tb : Nat) (lim : Int) (σ : Tb) (a : Option Addr) (c n : Nat) (L : List Pf) (hn : L.length = n) (hl : n ≤ 4096) (hp : ∀ p ∈ L, PfN p) (hs : StOk B σ.S σ.c) (he : σ.E.length ≤ 4096) : Pact Tryz.prog 48 #[.pointer (some ⟨b, 0, none⟩), .slice a n c] (fun _ => True) [pts b (tbC sp lim tb) 72, T.trA tb σ.E, stoA sp σ.S σ.c, Ar 41 2 pfC (.slice a n c) L]
    (fun u L' => u = .slice a n c ∧ L' = [pts b (tbC sp lim tb) 72, T.trA tb (dropF σ L).E, stoA sp (dropF σ L).S (dropF σ L).c, Ar 41 2 pfC (.slice a n c) L]) := by
  subst hn
  refine pact Tryz.func48 rfl Tryz.ntmps48 rfl ?_
  intro W K _
  (repeat' (first | ((with_reducible apply gL); (first | refine yL0 ?_ | refine yL ?_ | (refine yM ?_; intro _) | fail)) | refine yJ ?_ | ((with_reducible apply gJ_if); (first | (refine J_if xR ?_ ?_ <;> intro _ <;> (try (exfalso; first | contradiction | omega))) | (refine J_ifb xR ?_ ?_ <;> (intro hgb; subst hgb)) | (refine J_ifb xR ?_ ?_ <;> intro _) | fail)) | fail))
  refine J_loop (α := Nat) 0 (fun x => L.length - x) (fun x => x ≤ L.length) (fun x => [(0, .pointer (some ⟨b, 0, none⟩)), (1, .slice a L.length c), (7, .slice a L.length c), (8, .int .i64 L.length), (9, .int .i64 x)]) (fun x => [pts b (tbC sp lim tb) 72, T.trA tb (dropF σ (L.take x)).E, stoA sp (dropF σ (L.take x)).S (dropF σ (L.take x)).c, Ar 41 2 pfC (.slice a L.length c) L]) (Nat.zero_le _) ⟨rfl, rfl, rfl, rfl, rfl, trivial⟩ (fun w H => H.sel xZ) ?_
  intro k hk
  by_cases hlt : k < L.length
  · obtain ⟨p, hs2⟩ : ∃ p, L[k]? = some p := ⟨_, List.getElem?_eq_getElem hlt⟩
    have hst := dropF_ok (L.take k) σ hs
    have hlen := dropF_len (L.take k) σ
    obtain ⟨τ, hτ⟩ : ∃ τ, dropF σ (L.take k) = τ := ⟨_, rfl⟩
    rw [hτ] at hst hlen ⊢
    obtain ⟨E1, S1, c1⟩ := τ
    dsimp only at hst hlen ⊢
    have kd := rdrop_s B hB b sp tb lim E1 S1 _ c1 p _ (hp p (List.mem_of_getElem? hs2)) rfl (by omega) hst rfl
    (repeat' (first | ((with_reducible apply gL); (first | refine yL0 ?_ | refine yL ?_ | ((with_reducible apply gL_go); (first | (refine JL_goq (kd) (hφ := xF) (h := ?_); rintro _ _ rfl; try simp only [List.cons_append, List.nil_append]) | fail)) | (refine yM ?_; intro _) | fail)) | refine yJ ?_ | ((with_reducible apply gJ_if); (first | (refine J_if xR ?_ ?_ <;> intro _ <;> (try (exfalso; first | contradiction | omega))) | (refine J_ifb xR ?_ ?_ <;> (intro hgb; subst hgb)) | (refine J_ifb xR ?_ ?_ <;> intro _) | fail)) | fail))
    refine J_again (k + 1) (by omega) (by omega) ⟨rfl, rfl, rfl, rfl, rfl, trivial⟩ (fun w H => ?_)
    rw [take_snoc hs2, dropF_snoc, hτ]
    exact H.sel xZ
  · obtain rfl : k = L.length := by omega
    rw [List.take_length]
    (repeat' (first | ((with_reducible apply gL); (first | refine yL0 ?_ | refine yL ?_ | (refine yM ?_; intro _) | fail)) | refine yJ ?_ | ((with_reducible apply gJ_if); (first | (refine J_if xR ?_ ?_ <;> intro _ <;> (try (exfalso; first | contradiction | omega))) | (refine J_ifb xR ?_ ?_ <;> (intro hgb; subst hgb)) | (refine J_ifb xR ?_ ?_ <;> intro _) | fail)) | fail))
    exact J_ret1 rfl (by rfl) fun w H => ⟨_, ⟨rfl, rfl⟩, H.sel xZ⟩
end Go.Proofs.YtnhabkipjmgaaaaGreat
namespace Go.Proofs.YtnhabkipjmgaaaaGreat
set_option linter.unusedSimpArgs false
set_option linter.unusedVariables false
set_option maxRecDepth 20000
set_option maxHeartbeats 4000000
open Go.RowKit Go.Pm

open T (Pf PfN Rt Ah pfC)
theorem ris_s (b sp tb : Nat) (lim : Int) : Pact Tryz.prog 34 #[.pointer (some ⟨b, 0, none⟩)] (fun _ => True) [pts b (tbC sp lim tb) 72] (fun u L' => u = .bool true ∧ L' = [pts b (tbC sp lim tb) 72]) := by
  refine pact Tryz.func34 rfl Tryz.ntmps34 rfl ?_
  intro W K _
  (repeat' (first | ((with_reducible apply gL); (first | refine yL0 ?_ | refine yL ?_ | ((with_reducible apply gL_gd); (first | (refine JL_guard xR xR ?_ ?_ <;> intro _ <;> (try (exfalso; first | contradiction | omega))) | (refine JL_guardb xR xR ?_ ?_ <;> (intro hgb; subst hgb)) | (refine JL_guardb xR xR ?_ ?_ <;> (intro hgb; fail_if_success (have : type_of% hgb := rfl))) | fail)) | fail)) | refine yJ ?_ | fail))
  exact J_ret1 rfl (by rfl) fun w H => ⟨_, ⟨rfl, rfl⟩, H.sel xZ⟩
/-- What an update tells. -/
noncomputable def upL (u : Up) : List Pf := if okN u.d.nf then toldF u else []
theorem upL_srt (u : Up) : (upL u).Pairwise fun x y => Ah x y := by
  unfold upL
  split
  · exact (ddF_srt _ none (srtP_srt _) (fun _ h => by cases h)).1
  · exact .nil
theorem mem_toldF {u : Up} {p : Pf} : p ∈ toldF u ↔ p ∈ u.td ∧ Rt p := by
  unfold toldF
  rw [ddP_mem, (srtP_perm _).mem_iff]
  unfold keepP nrt
  rw [List.mem_filter]
  simp
theorem mem_upL {u : Up} {p : Pf} (h : p ∈ upL u) : p ∈ u.td ∧ Rt p := by
  unfold upL at h
  split at h
  · exact mem_toldF.1 h
  · cases h
theorem upL_len (u : Up) : (upL u).length ≤ u.td.length := by
  unfold upL
  split
  · unfold toldF
    have h1 := ddF_len (srtP (keepP nrt u.td)) none
    rw [srtP_len] at h1
    have h2 := keepP_len nrt u.td
    show (ddF none _).length ≤ _
    omega
  · exact Nat.zero_le _
theorem mem_goneF {E : List T.Ent} {L wd : List Pf} {p : Pf} : p ∈ goneF E L wd ↔ p ∈ wd ∧ (T.getL E p).isSome = true ∧ p ∉ L := by
  unfold goneF
  rw [ddP_mem, (srtP_perm _).mem_iff]
  unfold keepP gnT
  rw [List.mem_filter]
  simp
theorem goneF_len (E : List T.Ent) (L wd : List Pf) : (goneF E L wd).length ≤ wd.length := by
  unfold goneF
  have h1 := ddF_len (srtP (keepP (gnT E L) wd)) none
  rw [srtP_len] at h1
  have h2 := keepP_len (gnT E L) wd
  show (ddF none _).length ≤ _
  omega
theorem freshN_le (E : List T.Ent) (L : List Pf) : freshN E L ≤ L.length := List.length_filter_le _ _
theorem goneF_srt (E : List T.Ent) (L wd : List Pf) : (goneF E L wd).Pairwise fun x y => Ah x y := (ddF_srt _ none (srtP_srt _) (fun _ h => by cases h)).1
theorem told_u (u : Up) (hu : UpN u) : Pact Tryz.prog 35 #[.agg (upC u).toArray] (fun w => UpV w u) [] (fun v L' => ∃ (a : Option Addr) (c : Nat), v = .slice a (upL u).length c ∧ L' = [Ar 41 2 pfC (.slice a (upL u).length c) (upL u)]) := fun W K w hK H =>
  (told_s u hu W K w hK H).mono fun e w' h => by
    obtain ⟨v, L', ⟨L, a, c, hL, rfl, rfl⟩, h5, h6⟩ := h
    have e : L = upL u := hL
    subst e
    exact ⟨_, _, ⟨a, c, rfl, rfl⟩, h5, h6⟩
section
variable (b sp tb : Nat) (lim : Int) (E : List T.Ent) (S : List En) (c : Int) (u : Up)
theorem upfull_s (hu : UpN u) (hn : E.length ≤ 4096) (hI : I64 lim) (hf : (E.length : Int) - (goneF E (upL u) u.wd).length + freshN E (upL u) > lim) : Pact Tryz.prog 12 #[.pointer (some ⟨b, 0, none⟩), .agg (upC u).toArray] (fun w => UpV w u) (rtL b sp tb lim E S c) (fun v L' => v = .tuple #[.slice none 0 0, .int .i64 4] ∧ L' = rtL b sp tb lim E S c) := by
  refine pact Tryz.func12 rfl Tryz.ntmps12 rfl ?_
  intro W K hK
  have hll := upL_len u
  have htl := hu.tl
  have hgl := goneF_len E (upL u) u.wd
  have hwl := hu.wl
  have hfl := freshN_le E (upL u)
  have hlp : ∀ p ∈ upL u, PfN p := fun p hp => hu.td p (mem_upL hp).1
  have hls := upL_srt u
  generalize hL : upL u = L at *
  generalize hG : goneF E L u.wd = G at *
  generalize hF : freshN E L = F at *
  have kt := told_u u hu
  rw [hL] at kt
  (repeat' (first | ((with_reducible apply gL); (first | refine yL0 ?_ | refine yL ?_ | ((with_reducible apply gL_go); (first | (refine JL_goq (ris_s b sp tb lim) (hφ := xF) (h := ?_); rintro _ _ ⟨rfl, rfl⟩; try simp only [List.cons_append, List.nil_append]) | (refine JL_goq (kt) (hφ := (by (try simp only [List.cons_append, List.nil_append]); exact fun w hr => hK w hr.1)) (h := ?_); rintro _ _ ⟨a, c1, rfl, rfl⟩; try simp only [List.cons_append, List.nil_append]) | fail)) | (refine yM ?_; intro _) | (refine yA ?_; intro _ _ _ _) | fail)) | ((with_reducible apply gD); (first | (refine JD_nil ?_; try simp only [List.cons_append, List.nil_append]) | (refine JD_bar ?_; try simp only [List.cons_append, List.nil_append]) | refine yD ?_ | ((with_reducible apply gD_go); (first | (refine JD_goq (ris_s b sp tb lim) (hφ := xF) (h := ?_); rintro _ _ ⟨rfl, rfl⟩; try simp only [List.cons_append, List.nil_append]) | (refine JD_goq (kt) (hφ := (by (try simp only [List.cons_append, List.nil_append]); exact fun w hr => hK w hr.1)) (h := ?_); rintro _ _ ⟨a, c1, rfl, rfl⟩; try simp only [List.cons_append, List.nil_append]) | fail)) | fail)) | refine yJ ?_ | ((with_reducible apply gJ_if); (first | (refine J_if xR ?_ ?_ <;> intro _ <;> (try (exfalso; first | contradiction | omega))) | (refine J_ifb xR ?_ ?_ <;> (intro hgb; subst hgb)) | (refine J_ifb xR ?_ ?_ <;> intro _) | fail)) | refine J_draw (id := 5) [0, 1, 2, 3, 5, 6, 8, 9, 12, 13, 14, 15, 4, 7, 10, 11] [16] mixed xC xD xD ?_ | refine J_draw (id := 9) [0, 1, 2, 3, 4, 5] [6, 7, 8, 9, 10, 11] mixed xC xD xD ?_ | fail))
  have kg := gone_s b sp tb lim E a c1 _ L rfl hls (by omega) u hu
  rw [hG] at kg
  have kf := fresh_s b tb E a c1 _ L rfl (by omega) hlp
  rw [hF] at kf
  (repeat' (first | ((with_reducible apply gL); (first | refine yL0 ?_ | refine yL ?_ | ((with_reducible apply gL_go); (first | (refine JL_goq (kg) (hφ := (by (try simp only [List.cons_append, List.nil_append]); exact fun w hr => hK w hr.1)) (h := ?_); rintro _ _ ⟨a2, c2, rfl, rfl⟩; try simp only [List.cons_append, List.nil_append]) | (refine JL_goq (T.len_a tb E) (hφ := xF) (h := ?_); rintro _ _ ⟨rfl, rfl⟩; try simp only [List.cons_append, List.nil_append]) | (refine JL_goq (kf) (hφ := (by (try simp only [List.cons_append, List.nil_append]); exact fun w hr => hr.cell xA rfl)) (h := ?_); rintro _ _ ⟨rfl, rfl⟩; try simp only [List.cons_append, List.nil_append]) | fail)) | (refine yM ?_; intro _) | (refine yA ?_; intro _ _ _ _) | fail)) | ((with_reducible apply gD); (first | (refine JD_nil ?_; try simp only [List.cons_append, List.nil_append]) | (refine JD_bar ?_; try simp only [List.cons_append, List.nil_append]) | refine yD ?_ | ((with_reducible apply gD_go); (first | (refine JD_goq (kg) (hφ := (by (try simp only [List.cons_append, List.nil_append]); exact fun w hr => hK w hr.1)) (h := ?_); rintro _ _ ⟨a2, c2, rfl, rfl⟩; try simp only [List.cons_append, List.nil_append]) | (refine JD_goq (T.len_a tb E) (hφ := xF) (h := ?_); rintro _ _ ⟨rfl, rfl⟩; try simp only [List.cons_append, List.nil_append]) | (refine JD_goq (kf) (hφ := (by (try simp only [List.cons_append, List.nil_append]); exact fun w hr => hr.cell xA rfl)) (h := ?_); rintro _ _ ⟨rfl, rfl⟩; try simp only [List.cons_append, List.nil_append]) | fail)) | fail)) | refine yJ ?_ | ((with_reducible apply gJ_if); (first | (refine J_if xR ?_ ?_ <;> intro _ <;> (try (exfalso; first | contradiction | omega))) | (refine J_ifb xR ?_ ?_ <;> (intro hgb; subst hgb)) | (refine J_ifb xR ?_ ?_ <;> intro _) | fail)) | refine J_draw (id := 5) [0, 1, 2, 3, 5, 6, 8, 9, 12, 13, 14, 15, 4, 7, 10, 11] [16] mixed xC xD xD ?_ | refine J_draw (id := 9) [0, 1, 2, 3, 4, 5] [6, 7, 8, 9, 10, 11] mixed xC xD xD ?_ | fail))
  all_goals (first | (exfalso; omega) | skip)
  exact J_ret2 rfl (by rfl) (by rfl) fun w H => ⟨_, ⟨rfl, rfl⟩, H.sel xZ⟩
end
end Go.Proofs.YtnhabkipjmgaaaaGreat
namespace Go.Proofs.YtnhabkipjmgaaaaGreat
set_option linter.unusedSimpArgs false
set_option linter.unusedVariables false
set_option maxRecDepth 20000
set_option maxHeartbeats 4000000
open Go.RowKit Go.Pm

open T (Pf PfN Rt Ah pfC)
structure Ux where
  k : Nat
  a : Option Addr
  c : Nat
section
variable (b sp tb : Nat) (lim : Int) (E : List T.Ent) (S : List En) (c : Int) (u : Up)
theorem up_s (B : Int) (hB0 : 0 ≤ B) (hB : B ≤ 100000) (hu : UpN u) (hn : E.length ≤ 2000) (hI : I64 lim) (hf : ¬ ((E.length : Int) - (goneF E (upL u) u.wd).length + freshN E (upL u) > lim)) (hE : T.EOk E) (hs : StOk B S c) (hne : upL u ≠ []) (S0 : List En) (c0 id0 : Int) (hk : keepF S c u.d.nf = ((S0, c0), id0, 0)) (hid : 0 < id0) :
    Pact Tryz.prog 12 #[.pointer (some ⟨b, 0, none⟩), .agg (upC u).toArray] (fun w => UpV w u) (rtL b sp tb lim E S c)
    (fun v L' => ∃ (σ1 σ2 : Tb) (R : List Pf) (a : Option Addr) (cc : Nat), σ1 = dropF ⟨E, S0, c0⟩ (goneF E (upL u) u.wd) ∧ σ2 = putF u.d.nf σ1 (upL u) ∧ R = srtP (goneF E (upL u) u.wd ++ chg u.d.nf σ1 (upL u)) ∧ v = .tuple #[.slice a R.length cc, .int .i64 0] ∧ L' = [pts b (tbC sp lim tb) 72, T.trA tb σ2.E, stoA sp (freeF σ2.S id0).1 σ2.c, Ar 41 2 pfC (.slice a R.length cc) R]) := by
  refine pact Tryz.func12 rfl Tryz.ntmps12 rfl ?_
  intro W K hK
  have hll := upL_len u
  have htl := hu.tl
  have hgl := goneF_len E (upL u) u.wd
  have hwl := hu.wl
  have hfl := freshN_le E (upL u)
  have hlp : ∀ p ∈ upL u, PfN p ∧ Rt p := fun p hp => ⟨hu.td p (mem_upL hp).1, (mem_upL hp).2⟩
  have hgp : ∀ p ∈ goneF E (upL u) u.wd, PfN p := fun p hp => hu.wd p (mem_goneF.1 hp).1
  have hls := upL_srt u
  have hnx : NfN u.d.nf := At.nfN hu.d.num
  have hs0 : StOk (B + 1) S0 c0 := by have := keepF_ok hs hB0 hnx; rw [hk] at this; exact this
  have hid2 : id0 ≤ B + 1 := by have := (keepF_id (x := u.d.nf) hs).2; rw [hk] at this; exact this
  have kt := told_u u hu
  have kk := keep_s B hB0 (by omega) sp S c u.d hu.d hs
  rw [hk] at kk
  dsimp only at kk
  generalize hL : upL u = L at *
  generalize hG : goneF E L u.wd = G at *
  generalize hF : freshN E L = F at *
  generalize hX : u.d.nf = X at *
  have hlpos : 0 < L.length := List.length_pos_iff.2 hne
  (repeat' (first | ((with_reducible apply gL); (first | refine yL0 ?_ | refine yL ?_ | ((with_reducible apply gL_go); (first | (refine JL_goq (ris_s b sp tb lim) (hφ := xF) (h := ?_); rintro _ _ ⟨rfl, rfl⟩; try simp only [List.cons_append, List.nil_append]) | (refine JL_goq (kt) (hφ := (by (try simp only [List.cons_append, List.nil_append]); exact fun w hr => hK w hr.1)) (h := ?_); rintro _ _ ⟨a, c1, rfl, rfl⟩; try simp only [List.cons_append, List.nil_append]) | fail)) | (refine yM ?_; intro _) | (refine yA ?_; intro _ _ _ _) | fail)) | ((with_reducible apply gD); (first | (refine JD_nil ?_; try simp only [List.cons_append, List.nil_append]) | (refine JD_bar ?_; try simp only [List.cons_append, List.nil_append]) | refine yD ?_ | ((with_reducible apply gD_go); (first | (refine JD_goq (ris_s b sp tb lim) (hφ := xF) (h := ?_); rintro _ _ ⟨rfl, rfl⟩; try simp only [List.cons_append, List.nil_append]) | (refine JD_goq (kt) (hφ := (by (try simp only [List.cons_append, List.nil_append]); exact fun w hr => hK w hr.1)) (h := ?_); rintro _ _ ⟨a, c1, rfl, rfl⟩; try simp only [List.cons_append, List.nil_append]) | fail)) | fail)) | refine yJ ?_ | ((with_reducible apply gJ_if); (first | (refine J_if xR ?_ ?_ <;> intro _ <;> (try (exfalso; first | contradiction | omega))) | (refine J_ifb xR ?_ ?_ <;> (intro hgb; subst hgb)) | (refine J_ifb xR ?_ ?_ <;> intro _) | fail)) | refine J_draw (id := 5) [0, 1, 2, 3, 5, 6, 8, 9, 12, 13, 14, 15, 4, 7, 10, 11] [16] mixed xC xD xD ?_ | refine J_draw (id := 9) [0, 1, 2, 3, 4, 5] [6, 7, 8, 9, 10, 11] mixed xC xD xD ?_ | fail))
  have kg := gone_s b sp tb lim E a c1 _ L rfl hls (by omega) u hu
  rw [hG] at kg
  have kf := fresh_s b tb E a c1 _ L rfl (by omega) (fun p hp => (hlp p hp).1)
  rw [hF] at kf
  (repeat' (first | ((with_reducible apply gL); (first | refine yL0 ?_ | refine yL ?_ | ((with_reducible apply gL_go); (first | (refine JL_goq (kg) (hφ := (by (try simp only [List.cons_append, List.nil_append]); exact fun w hr => hK w hr.1)) (h := ?_); rintro _ _ ⟨a2, c2, rfl, rfl⟩; try simp only [List.cons_append, List.nil_append]) | (refine JL_goq (T.len_a tb E) (hφ := xF) (h := ?_); rintro _ _ ⟨rfl, rfl⟩; try simp only [List.cons_append, List.nil_append]) | (refine JL_goq (kf) (hφ := (by (try simp only [List.cons_append, List.nil_append]); exact fun w hr => hr.cell xA rfl)) (h := ?_); rintro _ _ ⟨rfl, rfl⟩; try simp only [List.cons_append, List.nil_append]) | (refine JL_goq (kk) (hφ := (by (try simp only [List.cons_append, List.nil_append]); exact fun w hr => (hK w hr.1).d)) (h := ?_); rintro _ _ ⟨rfl, rfl⟩; try simp only [List.cons_append, List.nil_append]) | fail)) | (refine yM ?_; intro _) | (refine yA ?_; intro _ _ _ _) | fail)) | ((with_reducible apply gD); (first | (refine JD_nil ?_; try simp only [List.cons_append, List.nil_append]) | (refine JD_bar ?_; try simp only [List.cons_append, List.nil_append]) | refine yD ?_ | ((with_reducible apply gD_go); (first | (refine JD_goq (kg) (hφ := (by (try simp only [List.cons_append, List.nil_append]); exact fun w hr => hK w hr.1)) (h := ?_); rintro _ _ ⟨a2, c2, rfl, rfl⟩; try simp only [List.cons_append, List.nil_append]) | (refine JD_goq (T.len_a tb E) (hφ := xF) (h := ?_); rintro _ _ ⟨rfl, rfl⟩; try simp only [List.cons_append, List.nil_append]) | (refine JD_goq (kf) (hφ := (by (try simp only [List.cons_append, List.nil_append]); exact fun w hr => hr.cell xA rfl)) (h := ?_); rintro _ _ ⟨rfl, rfl⟩; try simp only [List.cons_append, List.nil_append]) | (refine JD_goq (kk) (hφ := (by (try simp only [List.cons_append, List.nil_append]); exact fun w hr => (hK w hr.1).d)) (h := ?_); rintro _ _ ⟨rfl, rfl⟩; try simp only [List.cons_append, List.nil_append]) | fail)) | fail)) | refine yJ ?_ | ((with_reducible apply gJ_if); (first | (refine J_if xR ?_ ?_ <;> intro _ <;> (try (exfalso; first | contradiction | omega))) | (refine J_ifb xR ?_ ?_ <;> (intro hgb; subst hgb)) | (refine J_ifb xR ?_ ?_ <;> intro _) | fail)) | refine J_draw (id := 5) [0, 1, 2, 3, 5, 6, 8, 9, 12, 13, 14, 15, 4, 7, 10, 11] [16] mixed xC xD xD ?_ | refine J_draw (id := 9) [0, 1, 2, 3, 4, 5] [6, 7, 8, 9, 10, 11] mixed xC xD xD ?_ | fail))
  all_goals (first | (exfalso; omega) | skip)
  rename_i ub hq1 hq2
  obtain ⟨σ0, hσ0⟩ : ∃ σ0 : Tb, σ0 = ⟨E, S0, c0⟩ := ⟨_, rfl⟩
  have hst0 : StOk (B + 1) σ0.S σ0.c := by rw [hσ0]; exact hs0
  have hlen0 : σ0.E.length ≤ 2000 := by rw [hσ0]; exact hn
  refine J_loop (α := Nat) 0 (fun x => G.length - x) (fun x => x ≤ G.length) (fun x => [(0, .pointer (some ⟨b, 0, none⟩)), (3, .pointer (some ⟨ub, 0, none⟩)), (6, .slice a L.length c1), (7, .slice a2 G.length c2), (8, .int .i64 id0), (9, .int .i64 0), (55, .slice a2 G.length c2), (56, .int .i64 G.length), (57, .int .i64 x)]) (fun x => [pts b (tbC sp lim tb) 72, T.trA tb (dropF σ0 (G.take x)).E, stoA sp (dropF σ0 (G.take x)).S (dropF σ0 (G.take x)).c, pts ub (upC u) 31, Ar 41 2 pfC (.slice a L.length c1) L, Ar 41 2 pfC (.slice a2 G.length c2) G]) (Nat.zero_le _) ⟨rfl, rfl, rfl, rfl, rfl, rfl, rfl, rfl, rfl, trivial⟩ (fun w H => by rw [List.take_zero, hσ0]; exact H.sel xZ) ?_
  intro k hk
  by_cases hlt : k < G.length
  · obtain ⟨p, hs2⟩ : ∃ p, G[k]? = some p := ⟨_, List.getElem?_eq_getElem hlt⟩
    have hst := dropF_ok (G.take k) σ0 hst0
    have hlen := dropF_len (G.take k) σ0
    obtain ⟨τ, hτ⟩ : ∃ τ, dropF σ0 (G.take k) = τ := ⟨_, rfl⟩
    rw [hτ] at hst hlen ⊢
    obtain ⟨E1, S1, c3⟩ := τ
    dsimp only at hst hlen ⊢
    have kd := rdrop_s (B + 1) (by omega) b sp tb lim E1 S1 _ c3 p _ (hgp p (List.mem_of_getElem? hs2)) rfl (by omega) hst rfl
    (repeat' (first | ((with_reducible apply gL); (first | refine yL0 ?_ | refine yL ?_ | ((with_reducible apply gL_go); (first | (refine JL_goq (kd) (hφ := xF) (h := ?_); rintro _ _ rfl; try simp only [List.cons_append, List.nil_append]) | fail)) | (refine yM ?_; intro _) | (refine yA ?_; intro _ _ _ _) | fail)) | ((with_reducible apply gD); (first | (refine JD_nil ?_; try simp only [List.cons_append, List.nil_append]) | (refine JD_bar ?_; try simp only [List.cons_append, List.nil_append]) | refine yD ?_ | ((with_reducible apply gD_go); (first | (refine JD_goq (kd) (hφ := xF) (h := ?_); rintro _ _ rfl; try simp only [List.cons_append, List.nil_append]) | fail)) | fail)) | refine yJ ?_ | ((with_reducible apply gJ_if); (first | (refine J_if xR ?_ ?_ <;> intro _ <;> (try (exfalso; first | contradiction | omega))) | (refine J_ifb xR ?_ ?_ <;> (intro hgb; subst hgb)) | (refine J_ifb xR ?_ ?_ <;> intro _) | fail)) | refine J_draw (id := 5) [0, 1, 2, 3, 5, 6, 8, 9, 12, 13, 14, 15, 4, 7, 10, 11] [16] mixed xC xD xD ?_ | refine J_draw (id := 9) [0, 1, 2, 3, 4, 5] [6, 7, 8, 9, 10, 11] mixed xC xD xD ?_ | fail))
    refine J_again (k + 1) (by omega) (by omega) ⟨rfl, rfl, rfl, rfl, rfl, rfl, rfl, rfl, rfl, trivial⟩ (fun w H => ?_)
    rw [take_snoc hs2, dropF_snoc, hτ]
    exact H.sel xZ
  obtain rfl : k = G.length := by omega
  rw [List.take_length]
  have hst1 := dropF_ok G σ0 hst0
  have hlen1 := dropF_len G σ0
  obtain ⟨σ1, hσ1⟩ : ∃ σ1, dropF σ0 G = σ1 := ⟨_, rfl⟩
  rw [hσ1] at hst1 hlen1 ⊢
  refine J_fact (φ := T.EOk σ1.E) (fun w H => T.trOk H xA) ?_
  intro hE1
  (repeat' (first | ((with_reducible apply gL); (first | refine yL0 ?_ | refine yL ?_ | (refine yM ?_; intro _) | (refine yA ?_; intro _ _ _ _) | fail)) | ((with_reducible apply gD); (first | (refine JD_nil ?_; try simp only [List.cons_append, List.nil_append]) | (refine JD_bar ?_; try simp only [List.cons_append, List.nil_append]) | refine yD ?_ | fail)) | refine yJ ?_ | ((with_reducible apply gJ_if); (first | (refine J_if xR ?_ ?_ <;> intro _ <;> (try (exfalso; first | contradiction | omega))) | (refine J_ifb xR ?_ ?_ <;> (intro hgb; subst hgb)) | (refine J_ifb xR ?_ ?_ <;> intro _) | fail)) | refine J_draw (id := 5) [0, 1, 2, 3, 5, 6, 8, 9, 12, 13, 14, 15, 4, 7, 10, 11] [16] mixed xC xD xD ?_ | refine J_draw (id := 9) [0, 1, 2, 3, 4, 5] [6, 7, 8, 9, 10, 11] mixed xC xD xD ?_ | fail))
  refine J_loop (α := Ux) ⟨0, a2, c2⟩ (fun x => L.length - x.k) (fun x => x.k ≤ L.length) (fun x => [(0, .pointer (some ⟨b, 0, none⟩)), (3, .pointer (some ⟨ub, 0, none⟩)), (6, .slice a L.length c1), (7, .slice x.a (G ++ chg X σ1 (L.take x.k)).length x.c), (8, .int .i64 id0), (9, .int .i64 0), (65, .slice a L.length c1), (66, .int .i64 L.length), (67, .int .i64 x.k)]) (fun x => [pts b (tbC sp lim tb) 72, T.trA tb (putF X σ1 (L.take x.k)).E, stoA sp (putF X σ1 (L.take x.k)).S (putF X σ1 (L.take x.k)).c, pts ub (upC u) 31, Ar 41 2 pfC (.slice a L.length c1) L, Ar 41 2 pfC (.slice x.a (G ++ chg X σ1 (L.take x.k)).length x.c) (G ++ chg X σ1 (L.take x.k))]) (Nat.zero_le _) ⟨rfl, rfl, rfl, by dsimp only; rw [List.take_zero, chg, List.append_nil]; rfl, rfl, rfl, rfl, rfl, rfl, trivial⟩ (fun w H => by dsimp only; rw [List.take_zero, chg, List.append_nil]; exact H.sel xZ) ?_
  rintro ⟨k, a5, c5⟩ hk5
  dsimp only at hk5 ⊢
  by_cases hlt5 : k < L.length
  · obtain ⟨p, hs2⟩ : ∃ p, L[k]? = some p := ⟨_, List.getElem?_eq_getElem hlt5⟩
    have hpp := hlp p (List.mem_of_getElem? hs2)
    have hst := putF_ok hnx (L.take k) (B + 1) σ1 hst1 (by omega)
    have hlen := (putF_len X (L.take k) σ1 hE1.s).1
    have hcl := chg_len X (L.take k) σ1
    have hcs := chg_snoc X p (L.take k) σ1
    have htk : (L.take k).length = k := by rw [List.length_take]; omega
    rw [htk] at hst hlen hcl
    have hps := putF_snoc X σ1 (L.take k) p
    obtain ⟨CG, hCG⟩ : ∃ CG, chg X σ1 (L.take k) = CG := ⟨_, rfl⟩
    rw [hCG] at hcl hcs ⊢
    obtain ⟨τ, hτ⟩ : ∃ τ, putF X σ1 (L.take k) = τ := ⟨_, rfl⟩
    rw [hτ] at hst hlen hcs hps ⊢
    obtain ⟨E1, S1, c3⟩ := τ
    dsimp only at hst hlen hcs hps ⊢
    refine J_fact (φ := T.EOk E1) (fun w H => T.trOk H xA) ?_
    intro hE2
    have hkf := keepF_ok hst (by omega) hnx
    have hki := keepF_id (x := X) hst
    obtain ⟨⟨⟨Sa, ca⟩, id, er⟩, hkq⟩ : ∃ q, keepF S1 c3 X = q := ⟨_, rfl⟩
    rw [hkq] at hkf hki
    dsimp only at hkf hki
    obtain ⟨o, ho⟩ : ∃ o, T.oldV E1 p = o := ⟨_, rfl⟩
    obtain ⟨i, hi⟩ : ∃ i, (T.getL E1 p).isSome = i := ⟨_, rfl⟩
    have hox : T.VN o := by rw [← ho]; exact oldV_n hE2 p
    obtain ⟨S2, hS2⟩ : ∃ S2, (if i then (freeF Sa o.1).1 else Sa) = S2 := ⟨_, rfl⟩
    have kp := rput_s (B + 1 + k) (by omega) (by omega) b sp tb lim E1 S1 Sa S2 c3 ca id er p o i u.d hu.d hpp.1 hpp.2 ho hi (by omega) hst (by rw [hX]; exact hkq) hkf (by unfold I64; omega) hox hS2
    have hstep : putStep X ⟨E1, S1, c3⟩ p = ⟨T.putL E1 p (id, false), S2, ca⟩ := by
      unfold putStep
      dsimp only
      rw [hkq, ho, hi]
      dsimp only
      rw [hS2]
    have hnew : putNew X ⟨E1, S1, c3⟩ p = decide (o.1 ≠ id) := by
      unfold putNew
      dsimp only
      rw [hkq, ho]
    rw [hstep] at hps
    rw [hnew] at hcs
    by_cases hne5 : o.1 = id
    · have e5 : decide (o.1 ≠ id) = false := decide_eq_false (fun h => h hne5)
      rw [e5] at kp hcs
      simp only [Bool.false_eq_true, if_false, List.append_nil] at hcs
      (repeat' (first | ((with_reducible apply gL); (first | refine yL0 ?_ | refine yL ?_ | ((with_reducible apply gL_go); (first | (refine JL_goq (kp) (hφ := (by (try simp only [List.cons_append, List.nil_append]); exact fun w hr => (hK w hr.1).d)) (h := ?_); rintro _ _ ⟨rfl, rfl⟩; try simp only [List.cons_append, List.nil_append]) | fail)) | (refine yM ?_; intro _) | (refine yA ?_; intro _ _ _ _) | fail)) | ((with_reducible apply gD); (first | (refine JD_nil ?_; try simp only [List.cons_append, List.nil_append]) | (refine JD_bar ?_; try simp only [List.cons_append, List.nil_append]) | refine yD ?_ | ((with_reducible apply gD_go); (first | (refine JD_goq (kp) (hφ := (by (try simp only [List.cons_append, List.nil_append]); exact fun w hr => (hK w hr.1).d)) (h := ?_); rintro _ _ ⟨rfl, rfl⟩; try simp only [List.cons_append, List.nil_append]) | fail)) | fail)) | refine yJ ?_ | ((with_reducible apply gJ_if); (first | (refine J_if xR ?_ ?_ <;> intro _ <;> (try (exfalso; first | contradiction | omega))) | (refine J_ifb xR ?_ ?_ <;> (intro hgb; subst hgb)) | (refine J_ifb xR ?_ ?_ <;> intro _) | fail)) | refine J_draw (id := 5) [0, 1, 2, 3, 5, 6, 8, 9, 12, 13, 14, 15, 4, 7, 10, 11] [16] mixed xC xD xD ?_ | refine J_draw (id := 9) [0, 1, 2, 3, 4, 5] [6, 7, 8, 9, 10, 11] mixed xC xD xD ?_ | fail))
      refine J_again ⟨k + 1, a5, c5⟩ (by dsimp only; omega) (by dsimp only; omega) ⟨rfl, rfl, rfl, ?_, rfl, rfl, rfl, rfl, rfl, trivial⟩ (fun w H => ?_)
      · dsimp only; rw [take_snoc hs2, hcs]; rfl
      · dsimp only; rw [take_snoc hs2, hcs, hps]; exact H.sel xZ
    · have e5 : decide (o.1 ≠ id) = true := decide_eq_true hne5
      rw [e5] at kp hcs
      simp only [if_true] at hcs
      have hgl5 : (G ++ CG).length = G.length + CG.length := List.length_append
      (repeat' (first | ((with_reducible apply gL); (first | refine yL0 ?_ | ((with_reducible apply gL_c_append); (first | (refine JL_ap1 (z := p) (tabE etab_ok xR) xR xR xA xA xC xR xL xR (by omega) xR xR ?_; intro a6 c6 _ _) | fail)) | refine yL ?_ | ((with_reducible apply gL_go); (first | (refine JL_goq (kp) (hφ := (by (try simp only [List.cons_append, List.nil_append]); exact fun w hr => (hK w hr.1).d)) (h := ?_); rintro _ _ ⟨rfl, rfl⟩; try simp only [List.cons_append, List.nil_append]) | fail)) | (refine yM ?_; intro _) | (refine yA ?_; intro _ _ _ _) | fail)) | ((with_reducible apply gD); (first | (refine JD_nil ?_; try simp only [List.cons_append, List.nil_append]) | (refine JD_bar ?_; try simp only [List.cons_append, List.nil_append]) | refine yD ?_ | ((with_reducible apply gD_go); (first | (refine JD_goq (kp) (hφ := (by (try simp only [List.cons_append, List.nil_append]); exact fun w hr => (hK w hr.1).d)) (h := ?_); rintro _ _ ⟨rfl, rfl⟩; try simp only [List.cons_append, List.nil_append]) | fail)) | fail)) | refine yJ ?_ | ((with_reducible apply gJ_if); (first | (refine J_if xR ?_ ?_ <;> intro _ <;> (try (exfalso; first | contradiction | omega))) | (refine J_ifb xR ?_ ?_ <;> (intro hgb; subst hgb)) | (refine J_ifb xR ?_ ?_ <;> intro _) | fail)) | refine J_draw (id := 5) [0, 1, 2, 3, 5, 6, 8, 9, 12, 13, 14, 15, 4, 7, 10, 11] [16] mixed xC xD xD ?_ | refine J_draw (id := 9) [0, 1, 2, 3, 4, 5] [6, 7, 8, 9, 10, 11] mixed xC xD xD ?_ | fail))
      have hl6 : (G ++ CG).length + 1 = (G ++ (CG ++ [p])).length := by simp; omega
      refine J_again ⟨k + 1, a6, c6⟩ (by dsimp only; omega) (by dsimp only; omega) ⟨rfl, rfl, rfl, ?_, rfl, rfl, rfl, rfl, rfl, trivial⟩ (fun w H => ?_)
      · dsimp only; rw [take_snoc hs2, hcs, ← hl6]; rfl
      · dsimp only; rw [take_snoc hs2, hcs, hps, ← hl6, ← List.append_assoc]; exact H.sel xZ
  obtain rfl : k = L.length := by omega
  rw [List.take_length]
  have hst2 := putF_ok hnx L (B + 1) σ1 hst1 (by omega)
  obtain ⟨σ2, hσ2⟩ : ∃ σ2, putF X σ1 L = σ2 := ⟨_, rfl⟩
  rw [hσ2] at hst2 ⊢
  have hcl2 := chg_len X L σ1
  have kfr := free_o (B + 1 + L.length) (by omega) sp σ2.S _ σ2.c id0 hst2 rfl
  have ksr := sort_s a5 c5 _ (G ++ chg X σ1 L) rfl (by rw [List.length_append]; omega)
  (repeat' (first | ((with_reducible apply gL); (first | refine yL0 ?_ | refine yL ?_ | ((with_reducible apply gL_go); (first | (refine JL_goq (kfr) (hφ := xF) (h := ?_); rintro _ _ ⟨rfl, rfl⟩; try simp only [List.cons_append, List.nil_append]) | (refine JL_goq (ksr) (hφ := xF) (h := ?_); rintro _ _ ⟨rfl, rfl⟩; try simp only [List.cons_append, List.nil_append]) | fail)) | (refine yM ?_; intro _) | (refine yA ?_; intro _ _ _ _) | fail)) | ((with_reducible apply gD); (first | (refine JD_nil ?_; try simp only [List.cons_append, List.nil_append]) | (refine JD_bar ?_; try simp only [List.cons_append, List.nil_append]) | refine yD ?_ | ((with_reducible apply gD_go); (first | (refine JD_goq (kfr) (hφ := xF) (h := ?_); rintro _ _ ⟨rfl, rfl⟩; try simp only [List.cons_append, List.nil_append]) | (refine JD_goq (ksr) (hφ := xF) (h := ?_); rintro _ _ ⟨rfl, rfl⟩; try simp only [List.cons_append, List.nil_append]) | fail)) | fail)) | refine yJ ?_ | ((with_reducible apply gJ_if); (first | (refine J_if xR ?_ ?_ <;> intro _ <;> (try (exfalso; first | contradiction | omega))) | (refine J_ifb xR ?_ ?_ <;> (intro hgb; subst hgb)) | (refine J_ifb xR ?_ ?_ <;> intro _) | fail)) | refine J_draw (id := 5) [0, 1, 2, 3, 5, 6, 8, 9, 12, 13, 14, 15, 4, 7, 10, 11] [16] mixed xC xD xD ?_ | refine J_draw (id := 9) [0, 1, 2, 3, 4, 5] [6, 7, 8, 9, 10, 11] mixed xC xD xD ?_ | fail))
  all_goals (first | (exfalso; omega) | skip)
  refine J_ret2 rfl (by rfl) (by rfl) fun w H => ⟨_, ⟨σ1, σ2, srtP (G ++ chg X σ1 L), a5, c5, by rw [← hσ1, hσ0], hσ2.symm, rfl, by rw [srtP_len], rfl⟩, ?_⟩
  rw [srtP_len]
  exact H.sel xZ
end
end Go.Proofs.YtnhabkipjmgaaaaGreat
namespace Go.Proofs.YtnhabkipjmgaaaaGreat
set_option linter.unusedSimpArgs false
set_option linter.unusedVariables false
set_option maxRecDepth 20000
set_option maxHeartbeats 4000000
open Go.RowKit Go.Pm

open T (Pf PfN Rt Ah pfC)
section
variable {P : Program} {n : Nat} {W : World} {K : Hl} {k : List It} {tm : TM} {L R : List HP} {fn : Func} {Rr : Value → List HP → Prop}
theorem J_retC2 {t u s : Tmp} {v x : Value} {ty T : TypeId} {b : Nat} {cs : List Value} (hr : fn.results = #[.cell t ty, .tmp u, .tmp s]) (hv : evT tm (.tmp t) = some (.pointer (some ⟨b, 0, none⟩))) (hu : evT tm (.tmp u) = some v) (hx : evT tm (.tmp s) = some x) (hm : Tk L (pts b cs T) R) (ht : rowTy P ty cs.length = true) (hk : ∀ w, Ow W K L w → ∃ L', Rr (.tuple #[.agg cs.toArray, v, x]) L' ∧ Ow W K L' w) (hd : decM (tget tm mkK) = [] := by rfl) : J P n W K (fpost P fn W K Rr) (.code .ret :: k) tm L := J_outR hd fun a w hf hO => by
  refine ⟨L, hO, fun w' H => ?_⟩
  obtain ⟨L', h1, h2⟩ := hk w' H
  exact ⟨_, by simp [results, hr, hf.get? hv, hf.get? hu, hf.get? hx, run_cellR H hm ht, Array.getD_eq_getD_getElem?, asAddr], L', h1, h2⟩
end
theorem rnew_s (sp : Nat) (lim l2 : Int) (h1 : 0 ≤ lim) (h2 : lim ≤ 4096) (h3 : l2 = if lim = 0 then 4096 else lim) : Pact Tryz.prog 10 #[.pointer (some ⟨sp, 0, none⟩), .int .i64 lim] (fun _ => True) [stoA sp [] 0] (fun u L' => ∃ b tb, u = .tuple #[.pointer (some ⟨b, 0, none⟩), .int .i64 0] ∧ L' = rtL b sp tb l2 [] [] 0) := by
  subst h3
  refine pact Tryz.func10 rfl Tryz.ntmps10 rfl ?_
  intro W K _
  have hf := free_o 0 (by omega) sp [] [] 0 0 stok_nil rfl
  have e5 : (freeF [] 0).2 = 5 := rfl
  rw [e5] at hf
  by_cases h0 : lim = 0
  · subst h0
    (repeat' (first | ((with_reducible apply gL); (first | refine yL0 ?_ | refine yL ?_ | ((with_reducible apply gL_go); (first | (refine JL_goq (hf) (hφ := xF) (h := ?_); rintro _ _ ⟨rfl, rfl⟩; try simp only [List.cons_append, List.nil_append]) | (refine JL_goq (T.new_a) (hφ := xF) (h := ?_); rintro _ _ ⟨tb, rfl, rfl⟩; try simp only [List.cons_append, List.nil_append]) | fail)) | (refine yM ?_; intro _) | ((with_reducible apply gL_gd); (first | (refine JL_guard xR xR ?_ ?_ <;> intro _ <;> (try (exfalso; first | contradiction | omega))) | (refine JL_guardb xR xR ?_ ?_ <;> (intro hgb; subst hgb)) | (refine JL_guardb xR xR ?_ ?_ <;> (intro hgb; fail_if_success (have : type_of% hgb := rfl))) | fail)) | fail)) | refine yJ ?_ | ((with_reducible apply gJ_if); (first | (refine J_if xR ?_ ?_ <;> intro _ <;> (try (exfalso; first | contradiction | omega))) | (refine J_ifb xR ?_ ?_ <;> (intro hgb; subst hgb)) | (refine J_ifb xR ?_ ?_ <;> intro _) | fail)) | fail))
    all_goals (first | (exfalso; omega) | skip)
    exact J_ret2 rfl (by rfl) (by rfl) fun w H => ⟨_, ⟨_, tb, rfl, rfl⟩, H.sel xZ⟩
  · rw [if_neg h0]
    (repeat' (first | ((with_reducible apply gL); (first | refine yL0 ?_ | refine yL ?_ | ((with_reducible apply gL_go); (first | (refine JL_goq (hf) (hφ := xF) (h := ?_); rintro _ _ ⟨rfl, rfl⟩; try simp only [List.cons_append, List.nil_append]) | (refine JL_goq (T.new_a) (hφ := xF) (h := ?_); rintro _ _ ⟨tb, rfl, rfl⟩; try simp only [List.cons_append, List.nil_append]) | fail)) | (refine yM ?_; intro _) | ((with_reducible apply gL_gd); (first | (refine JL_guard xR xR ?_ ?_ <;> intro _ <;> (try (exfalso; first | contradiction | omega))) | (refine JL_guardb xR xR ?_ ?_ <;> (intro hgb; subst hgb)) | (refine JL_guardb xR xR ?_ ?_ <;> (intro hgb; fail_if_success (have : type_of% hgb := rfl))) | fail)) | fail)) | refine yJ ?_ | ((with_reducible apply gJ_if); (first | (refine J_if xR ?_ ?_ <;> intro _ <;> (try (exfalso; first | contradiction | omega))) | (refine J_ifb xR ?_ ?_ <;> (intro hgb; subst hgb)) | (refine J_ifb xR ?_ ?_ <;> intro _) | fail)) | fail))
    all_goals (first | (exfalso; omega) | skip)
    exact J_ret2 rfl (by rfl) (by rfl) fun w H => ⟨_, ⟨_, tb, rfl, rfl⟩, H.sel xZ⟩
section
variable (b sp tb : Nat) (lim : Int) (E : List T.Ent) (S : List En) (c : Int)
/-- What Get gives. -/
def rgX (p : Pf) : Nf := match T.getL E p with | none => zAt.nf | some o => getX S o.1
def rgS (p : Pf) : Bool := match T.getL E p with | none => false | some o => o.2
theorem rget_s (p : Pf) (hp : PfN p) : Pact Tryz.prog 15 #[.pointer (some ⟨b, 0, none⟩), .agg (pfC p).toArray] (fun _ => True) (rtL b sp tb lim E S c) (fun u L' => ∃ d', (AtF d' ∧ d'.nf = rgX E S p) ∧ u = .tuple #[.agg (atC d').toArray, .bool (rgS E p), .bool (T.getL E p).isSome] ∧ L' = [pts b (tbC sp lim tb) 72, T.trA tb E, stoA sp S c, has (fun w => AtV w d')]) := by
  refine pact Tryz.func15 rfl Tryz.ntmps15 rfl ?_
  intro W K _
  unfold rgX rgS
  rcases hg : T.getL E p with _ | o
  · have ho : T.oldV E p = T.zV := by unfold T.oldV; rw [hg]; rfl
    have k := T.get_old tb E p hp _ ho false (by rw [hg]; rfl)
    (repeat' (first | ((with_reducible apply gL); (first | refine yL0 ?_ | refine yL ?_ | ((with_reducible apply gL_go); (first | (refine JL_goq (ris_s b sp tb lim) (hφ := xF) (h := ?_); rintro _ _ ⟨rfl, rfl⟩; try simp only [List.cons_append, List.nil_append]) | (refine JL_goq (k) (hφ := xF) (h := ?_); rintro _ _ ⟨rfl, rfl⟩; try simp only [List.cons_append, List.nil_append]) | fail)) | (refine yM ?_; intro _) | fail)) | ((with_reducible apply gD); (first | (refine JD_nil ?_; try simp only [List.cons_append, List.nil_append]) | (refine JD_bar ?_; try simp only [List.cons_append, List.nil_append]) | refine yD ?_ | ((with_reducible apply gD_go); (first | (refine JD_goq (ris_s b sp tb lim) (hφ := xF) (h := ?_); rintro _ _ ⟨rfl, rfl⟩; try simp only [List.cons_append, List.nil_append]) | (refine JD_goq (k) (hφ := xF) (h := ?_); rintro _ _ ⟨rfl, rfl⟩; try simp only [List.cons_append, List.nil_append]) | fail)) | (refine yE ?_; intro _) | fail)) | refine yJ ?_ | ((with_reducible apply gJ_if); (first | (refine J_if xR ?_ ?_ <;> intro _ <;> (try (exfalso; first | contradiction | omega))) | (refine J_ifb xR ?_ ?_ <;> (intro hgb; subst hgb)) | (refine J_ifb xR ?_ ?_ <;> intro _) | fail)) | refine J_draw (id := 3) [0, 1, 2, 3, 4, 5, 6, 7, 8, 9, 10] [11] mixed xC xD xD ?_ | refine J_draw (id := 6) [0, 1, 2, 3, 4, 5, 6, 7, 8, 9, 10, 11] [12] mixed xC xD xD ?_ | refine J_draw (id := 7) [0, 1, 2, 3] [4, 5] mixed xC xD xD ?_ | fail))
    exact J_retC2 (cs := zC) rfl (by rfl) (by rfl) (by rfl) xA (by rfl) fun w H => ⟨_, ⟨zAt, ⟨zAt_f, rfl⟩, rfl, rfl⟩, (Ow.hasTrue (φ := fun w => AtV w zAt) H zAt_v).sel xZ⟩
  · have ho : T.oldV E p = o := by unfold T.oldV; rw [hg]; rfl
    have k := T.get_old tb E p hp _ ho true (by rw [hg]; rfl)
    (repeat' (first | ((with_reducible apply gL); (first | refine yL0 ?_ | refine yL ?_ | ((with_reducible apply gL_go); (first | (refine JL_goq (ris_s b sp tb lim) (hφ := xF) (h := ?_); rintro _ _ ⟨rfl, rfl⟩; try simp only [List.cons_append, List.nil_append]) | (refine JL_goq (k) (hφ := xF) (h := ?_); rintro _ _ ⟨rfl, rfl⟩; try simp only [List.cons_append, List.nil_append]) | (refine JL_goq (get_s sp S c o.1) (hφ := xF) (h := ?_); rintro _ _ ⟨d', P, hd', hnf, rfl, hP, hP2⟩; try simp only [List.cons_append, List.nil_append]) | fail)) | (refine yM ?_; intro _) | fail)) | ((with_reducible apply gD); (first | (refine JD_nil ?_; try simp only [List.cons_append, List.nil_append]) | (refine JD_bar ?_; try simp only [List.cons_append, List.nil_append]) | refine yD ?_ | ((with_reducible apply gD_go); (first | (refine JD_goq (ris_s b sp tb lim) (hφ := xF) (h := ?_); rintro _ _ ⟨rfl, rfl⟩; try simp only [List.cons_append, List.nil_append]) | (refine JD_goq (k) (hφ := xF) (h := ?_); rintro _ _ ⟨rfl, rfl⟩; try simp only [List.cons_append, List.nil_append]) | (refine JD_goq (get_s sp S c o.1) (hφ := xF) (h := ?_); rintro _ _ ⟨d', P, hd', hnf, rfl, hP, hP2⟩; try simp only [List.cons_append, List.nil_append]) | fail)) | (refine yE ?_; intro _) | fail)) | refine yJ ?_ | ((with_reducible apply gJ_if); (first | (refine J_if xR ?_ ?_ <;> intro _ <;> (try (exfalso; first | contradiction | omega))) | (refine J_ifb xR ?_ ?_ <;> (intro hgb; subst hgb)) | (refine J_ifb xR ?_ ?_ <;> intro _) | fail)) | refine J_draw (id := 3) [0, 1, 2, 3, 4, 5, 6, 7, 8, 9, 10] [11] mixed xC xD xD ?_ | refine J_draw (id := 6) [0, 1, 2, 3, 4, 5, 6, 7, 8, 9, 10, 11] [12] mixed xC xD xD ?_ | refine J_draw (id := 7) [0, 1, 2, 3] [4, 5] mixed xC xD xD ?_ | fail))
    subst hP2
    simp only [List.append_nil] at hP
    subst hP
    simp only [List.cons_append, List.nil_append]
    (repeat' (first | ((with_reducible apply gL); (first | refine yL0 ?_ | refine yL ?_ | (refine yM ?_; intro _) | fail)) | ((with_reducible apply gD); (first | (refine JD_nil ?_; try simp only [List.cons_append, List.nil_append]) | (refine JD_bar ?_; try simp only [List.cons_append, List.nil_append]) | refine yD ?_ | (refine yE ?_; intro _) | fail)) | refine yJ ?_ | ((with_reducible apply gJ_if); (first | (refine J_if xR ?_ ?_ <;> intro _ <;> (try (exfalso; first | contradiction | omega))) | (refine J_ifb xR ?_ ?_ <;> (intro hgb; subst hgb)) | (refine J_ifb xR ?_ ?_ <;> intro _) | fail)) | refine J_draw (id := 3) [0, 1, 2, 3, 4, 5, 6, 7, 8, 9, 10] [11] mixed xC xD xD ?_ | refine J_draw (id := 6) [0, 1, 2, 3, 4, 5, 6, 7, 8, 9, 10, 11] [12] mixed xC xD xD ?_ | refine J_draw (id := 7) [0, 1, 2, 3] [4, 5] mixed xC xD xD ?_ | fail))
    exact J_retC2 (cs := atC d') rfl (by rfl) (by rfl) (by rfl) xA (by rfl) fun w H => ⟨_, ⟨d', ⟨hd', hnf⟩, rfl, rfl⟩, H.sel xZ⟩
theorem rlen_s : Pact Tryz.prog 14 #[.pointer (some ⟨b, 0, none⟩)] (fun _ => True) [pts b (tbC sp lim tb) 72, T.trA tb E] (fun u L' => u = .int .i64 E.length ∧ L' = [pts b (tbC sp lim tb) 72, T.trA tb E]) := by
  refine pact Tryz.func14 rfl Tryz.ntmps14 rfl ?_
  intro W K _
  (repeat' (first | ((with_reducible apply gL); (first | refine yL0 ?_ | refine yL ?_ | ((with_reducible apply gL_go); (first | (refine JL_goq (ris_s b sp tb lim) (hφ := xF) (h := ?_); rintro _ _ ⟨rfl, rfl⟩; try simp only [List.cons_append, List.nil_append]) | (refine JL_goq (T.len_a tb E) (hφ := xF) (h := ?_); rintro _ _ ⟨rfl, rfl⟩; try simp only [List.cons_append, List.nil_append]) | fail)) | fail)) | refine yJ ?_ | ((with_reducible apply gJ_if); (first | (refine J_if xR ?_ ?_ <;> intro _ <;> (try (exfalso; first | contradiction | omega))) | (refine J_ifb xR ?_ ?_ <;> (intro hgb; subst hgb)) | (refine J_ifb xR ?_ ?_ <;> intro _) | fail)) | fail))
  exact J_ret1 rfl (by rfl) fun w H => ⟨_, ⟨rfl, rfl⟩, H.sel xZ⟩
theorem rall_s (hn : E.length ≤ 4096) : Pact Tryz.prog 24 #[.pointer (some ⟨b, 0, none⟩)] (fun _ => True) [pts b (tbC sp lim tb) 72, T.trA tb E] (fun u L' => ∃ a cc, u = .slice a (T.keysE E).length cc ∧ L' = [pts b (tbC sp lim tb) 72, T.trA tb E, Ar 41 2 pfC (.slice a (T.keysE E).length cc) (T.keysE E)]) := by
  refine pact Tryz.func24 rfl Tryz.ntmps24 rfl ?_
  intro W K _
  (repeat' (first | ((with_reducible apply gL); (first | refine yL0 ?_ | refine yL ?_ | ((with_reducible apply gL_go); (first | (refine JL_goq (ris_s b sp tb lim) (hφ := xF) (h := ?_); rintro _ _ ⟨rfl, rfl⟩; try simp only [List.cons_append, List.nil_append]) | (refine JL_goq (T.all_a tb E hn) (hφ := xF) (h := ?_); rintro _ _ ⟨a, cc, rfl, rfl⟩; try simp only [List.cons_append, List.nil_append]) | fail)) | fail)) | refine yJ ?_ | ((with_reducible apply gJ_if); (first | (refine J_if xR ?_ ?_ <;> intro _ <;> (try (exfalso; first | contradiction | omega))) | (refine J_ifb xR ?_ ?_ <;> (intro hgb; subst hgb)) | (refine J_ifb xR ?_ ?_ <;> intro _) | fail)) | fail))
  exact J_ret1 rfl (by rfl) fun w H => ⟨_, ⟨a, cc, rfl, rfl⟩, H.sel xZ⟩
theorem old_s (x : T.Vt) : Pact Tryz.prog 50 #[.agg (T.vC x).toArray] (fun _ => True) [] (ret0 (.bool x.2)) := by
  refine pact Tryz.func50 rfl Tryz.ntmps50 rfl ?_
  intro W K _
  (repeat' (first | ((with_reducible apply gL); (first | refine yL0 ?_ | refine yL ?_ | (refine yM ?_; intro _) | fail)) | refine yJ ?_ | fail))
  exact J_ret1 rfl (by rfl) fun w H => ⟨_, ⟨rfl, rfl⟩, H.sel .nil⟩
def nst (p : Pf) : Bool := !(T.oldV E p).2
theorem rthose1_s (g h : Nat) (p : Pf) (hp : PfN p) : Pact Tryz.prog 81 (.agg (pfC p).toArray :: [.pointer (some ⟨g, 0, none⟩), .pointer (some ⟨h, 0, none⟩)]).toArray (fun w => w.cell? ⟨g, 0, none⟩ = some (.pointer (some ⟨b, 0, none⟩)) ∧ w.cell? ⟨h, 0, none⟩ = some (.func (.func 50) #[] #[])) [pts b (tbC sp lim tb) 72, T.trA tb E]
    (fun u L' => u = .bool (nst E p) ∧ L' = [pts b (tbC sp lim tb) 72, T.trA tb E]) := by
  refine pact Tryz.func81 rfl Tryz.ntmps81 rfl ?_
  intro W K hφ
  have h1 : Kn K (fun w => w.cell? ⟨g, 0, none⟩ = some (.pointer (some ⟨b, 0, none⟩))) := hφ.left
  have h2 : Kn K (fun w => w.cell? ⟨h, 0, none⟩ = some (.func (.func 50) #[] #[])) := hφ.right
  unfold nst
  obtain ⟨o, ho⟩ : ∃ o, T.oldV E p = o := ⟨_, rfl⟩
  have k := T.get_old tb E p hp o ho _ rfl
  rw [ho]
  have kq := old_s o
  rcases hq : o.2 with _ | _
  all_goals (
    rw [hq] at kq
    (repeat' (first | ((with_reducible apply gL); (first | refine yL0 ?_ | refine yL ?_ | ((with_reducible apply gL_go); (first | (refine JL_goq (k) (hφ := xF) (h := ?_); rintro _ _ ⟨rfl, rfl⟩; try simp only [List.cons_append, List.nil_append]) | (refine JL_goq (kq) (hφ := xF) (h := ?_); rintro _ _ ⟨rfl, rfl⟩; try simp only [List.cons_append, List.nil_append]) | fail)) | (refine yM ?_; intro _) | fail)) | ((with_reducible apply gD); (first | (refine JD_nil ?_; try simp only [List.cons_append, List.nil_append]) | (refine JD_bar ?_; try simp only [List.cons_append, List.nil_append]) | refine yD ?_ | ((with_reducible apply gD_go); (first | (refine JD_goq (k) (hφ := xF) (h := ?_); rintro _ _ ⟨rfl, rfl⟩; try simp only [List.cons_append, List.nil_append]) | (refine JD_goq (kq) (hφ := xF) (h := ?_); rintro _ _ ⟨rfl, rfl⟩; try simp only [List.cons_append, List.nil_append]) | fail)) | (refine yE ?_; intro _) | fail)) | refine yJ ?_ | refine J_draw (id := 1) [0, 1, 2, 3, 4, 5, 6, 7, 8, 9, 10] [11] mixed xC xD xD ?_ | fail))
    exact J_ret1 rfl (by rfl) fun w H => ⟨_, ⟨rfl, rfl⟩, H.sel xZ⟩)
/-- The stale ones. -/
def staleK : List Pf := keepP (nst E) (T.keysE E)
theorem rthose_s (hn : E.length ≤ 4096) (hE : T.EOk E) : Pact Tryz.prog 49 #[.pointer (some ⟨b, 0, none⟩), .func (.func 50) #[] #[]] (fun _ => True) [pts b (tbC sp lim tb) 72, T.trA tb E] (fun u L' => ∃ a cc, u = .slice a (staleK E).length cc ∧ L' = [pts b (tbC sp lim tb) 72, T.trA tb E, Ar 41 2 pfC (.slice a (staleK E).length cc) (staleK E)]) := by
  refine pact Tryz.func49 rfl Tryz.ntmps49 rfl ?_
  intro W K _
  have hkl : (T.keysE E).length ≤ 4096 := by show (List.map _ _).length ≤ _; rw [List.length_map]; exact hn
  have hkn : ∀ p ∈ T.keysE E, PfN p := fun p hp => by
    obtain ⟨e, he, rfl⟩ := List.mem_map.1 hp
    exact (hE.e e he).2.1
  (repeat' (first | ((with_reducible apply gL); (first | refine yL0 ?_ | refine yL ?_ | ((with_reducible apply gL_go); (first | (refine JL_goq (rall_s b sp tb lim E hn) (hφ := xF) (h := ?_); rintro _ _ ⟨a1, c1, rfl, rfl⟩; try simp only [List.cons_append, List.nil_append]) | fail)) | (refine yM ?_; intro _) | fail)) | refine yJ ?_ | fail))
  rename_i g h
  have hT : TstP 81 [.pointer (some ⟨g, 0, none⟩), .pointer (some ⟨h, 0, none⟩)] (nst E) _ (sats [pts b (tbC sp lim tb) 72, T.trA tb E]) := tst_of (by decide +kernel) (fun p hp => rthose1_s b sp tb lim E g h p hp)
  have kd := delete_f [pts b (tbC sp lim tb) 72, T.trA tb E] a1 c1 _ (T.keysE E) rfl 81 _ (nst E) _ hT hkn (by omega)
  simp only [List.cons_append, List.nil_append] at kd
  (repeat' (first | ((with_reducible apply gL); (first | refine yL0 ?_ | refine yL ?_ | ((with_reducible apply gL_go); (first | (refine JL_goq (kd) (hφ := (by (try simp only [List.cons_append, List.nil_append]); exact fun w hr => ⟨hr.cell xA rfl, hr.cell xA rfl⟩)) (h := ?_); rintro _ _ ⟨a2, c2, rfl, rfl⟩; try simp only [List.cons_append, List.nil_append]) | fail)) | (refine yM ?_; intro _) | fail)) | refine yJ ?_ | fail))
  exact J_ret1 rfl (by rfl) fun w H => ⟨_, ⟨a2, c2, rfl, rfl⟩, H.sel xZ⟩
theorem stalen_s (hn : E.length ≤ 4096) (hE : T.EOk E) : Pact Tryz.prog 23 #[.pointer (some ⟨b, 0, none⟩)] (fun _ => True) [pts b (tbC sp lim tb) 72, T.trA tb E] (fun u L' => u = .int .i64 (staleK E).length ∧ L' = [pts b (tbC sp lim tb) 72, T.trA tb E]) := by
  refine pact Tryz.func23 rfl Tryz.ntmps23 rfl ?_
  intro W K _
  (repeat' (first | ((with_reducible apply gL); (first | refine yL0 ?_ | refine yL ?_ | ((with_reducible apply gL_go); (first | (refine JL_goq (rthose_s b sp tb lim E hn hE) (hφ := xF) (h := ?_); rintro _ _ ⟨a1, c1, rfl, rfl⟩; try simp only [List.cons_append, List.nil_append]) | fail)) | fail)) | refine yJ ?_ | fail))
  exact J_ret1 rfl (by rfl) fun w H => ⟨_, ⟨rfl, rfl⟩, H.sel xZ⟩
theorem clear_s (B : Int) (hB : B ≤ 1000000000) (hn : E.length ≤ 4096) (hE : T.EOk E) (hs : StOk B S c) : Pact Tryz.prog 19 #[.pointer (some ⟨b, 0, none⟩)] (fun _ => True) (rtL b sp tb lim E S c) (fun u L' => ∃ a cc, u = .slice a (T.keysE E).length cc ∧ L' = [pts b (tbC sp lim tb) 72, T.trA tb (dropF ⟨E, S, c⟩ (T.keysE E)).E, stoA sp (dropF ⟨E, S, c⟩ (T.keysE E)).S (dropF ⟨E, S, c⟩ (T.keysE E)).c, Ar 41 2 pfC (.slice a (T.keysE E).length cc) (T.keysE E)]) := by
  refine pact Tryz.func19 rfl Tryz.ntmps19 rfl ?_
  intro W K _
  have hkl : (T.keysE E).length ≤ 4096 := by show (List.map _ _).length ≤ _; rw [List.length_map]; exact hn
  have hkn : ∀ p ∈ T.keysE E, PfN p := fun p hp => by
    obtain ⟨e, he, rfl⟩ := List.mem_map.1 hp
    exact (hE.e e he).2.1
  (repeat' (first | ((with_reducible apply gL); (first | refine yL0 ?_ | refine yL ?_ | ((with_reducible apply gL_go); (first | (refine JL_goq (rall_s b sp tb lim E hn) (hφ := xF) (h := ?_); rintro _ _ ⟨a1, c1, rfl, rfl⟩; try simp only [List.cons_append, List.nil_append]) | fail)) | fail)) | refine yJ ?_ | fail))
  have ka := away_s B hB b sp tb lim ⟨E, S, c⟩ a1 c1 _ (T.keysE E) rfl hkl hkn hs hn
  (repeat' (first | ((with_reducible apply gL); (first | refine yL0 ?_ | refine yL ?_ | ((with_reducible apply gL_go); (first | (refine JL_goq (ka) (hφ := xF) (h := ?_); rintro _ _ ⟨rfl, rfl⟩; try simp only [List.cons_append, List.nil_append]) | fail)) | fail)) | refine yJ ?_ | fail))
  exact J_ret1 rfl (by rfl) fun w H => ⟨_, ⟨a1, c1, rfl, rfl⟩, H.sel xZ⟩
theorem sweep_s (B : Int) (hB : B ≤ 1000000000) (hn : E.length ≤ 4096) (hE : T.EOk E) (hs : StOk B S c) : Pact Tryz.prog 18 #[.pointer (some ⟨b, 0, none⟩)] (fun _ => True) (rtL b sp tb lim E S c) (fun u L' => ∃ a cc, u = .slice a (staleK E).length cc ∧ L' = [pts b (tbC sp lim tb) 72, T.trA tb (dropF ⟨E, S, c⟩ (staleK E)).E, stoA sp (dropF ⟨E, S, c⟩ (staleK E)).S (dropF ⟨E, S, c⟩ (staleK E)).c, Ar 41 2 pfC (.slice a (staleK E).length cc) (staleK E)]) := by
  refine pact Tryz.func18 rfl Tryz.ntmps18 rfl ?_
  intro W K _
  have hkl : (staleK E).length ≤ 4096 := by
    have h1 := keepP_len (nst E) (T.keysE E)
    have h2 : (T.keysE E).length = E.length := List.length_map _
    show (keepP _ _).length ≤ _
    omega
  have hkn : ∀ p ∈ staleK E, PfN p := fun p hp => by
    obtain ⟨e, he, rfl⟩ := List.mem_map.1 (List.mem_filter.1 hp).1
    exact (hE.e e he).2.1
  (repeat' (first | ((with_reducible apply gL); (first | refine yL0 ?_ | refine yL ?_ | ((with_reducible apply gL_go); (first | (refine JL_goq (rthose_s b sp tb lim E hn hE) (hφ := xF) (h := ?_); rintro _ _ ⟨a1, c1, rfl, rfl⟩; try simp only [List.cons_append, List.nil_append]) | fail)) | fail)) | refine yJ ?_ | fail))
  have ka := away_s B hB b sp tb lim ⟨E, S, c⟩ a1 c1 _ (staleK E) rfl hkl hkn hs hn
  (repeat' (first | ((with_reducible apply gL); (first | refine yL0 ?_ | refine yL ?_ | ((with_reducible apply gL_go); (first | (refine JL_goq (ka) (hφ := xF) (h := ?_); rintro _ _ ⟨rfl, rfl⟩; try simp only [List.cons_append, List.nil_append]) | fail)) | fail)) | refine yJ ?_ | fail))
  exact J_ret1 rfl (by rfl) fun w H => ⟨_, ⟨a1, c1, rfl, rfl⟩, H.sel xZ⟩
def markE (E : List T.Ent) (ps : List Pf) : List T.Ent := ps.foldl (fun E p => T.putL E p ((T.oldV E p).1, true)) E
theorem markE_snoc (ps : List Pf) (p : Pf) : markE E (ps ++ [p]) = T.putL (markE E ps) p ((T.oldV (markE E ps) p).1, true) := by unfold markE; rw [List.foldl_append]; rfl
end
theorem markE_srt : ∀ (ps : List Pf) (E : List T.Ent), T.Srt E → T.Srt (markE E ps) ∧ (markE E ps).length ≤ E.length + ps.length
  | [], _, h => ⟨h, by simp [markE]⟩
  | p :: ps, E, h => by
    have h0 : T.Srt (T.putL E p ((T.oldV E p).1, true)) := T.srt_putL h
    obtain ⟨h1, h2⟩ := markE_srt ps (T.putL E p ((T.oldV E p).1, true)) h0
    have h3 : (T.putL E p ((T.oldV E p).1, true)).length ≤ E.length + 1 := by
      rw [T.len_putL h]
      split <;> omega
    refine ⟨h1, ?_⟩
    show (markE (T.putL E p ((T.oldV E p).1, true)) ps).length ≤ _
    simp only [List.length_cons]
    omega
theorem mark_s (b sp tb : Nat) (lim : Int) (E : List T.Ent) (hn : E.length ≤ 2000) (hE : T.EOk E) : Pact Tryz.prog 17 #[.pointer (some ⟨b, 0, none⟩)] (fun _ => True) [pts b (tbC sp lim tb) 72, T.trA tb E] (fun _ L' => L' = [pts b (tbC sp lim tb) 72, T.trA tb (markE E (T.keysE E))]) := by
  refine pact Tryz.func17 rfl Tryz.ntmps17 rfl ?_
  intro W K _
  have hkl : (T.keysE E).length = E.length := List.length_map _
  have hkn : ∀ p ∈ T.keysE E, PfN p ∧ Rt p := fun p hp => by
    obtain ⟨e, he, rfl⟩ := List.mem_map.1 hp
    exact ⟨(hE.e e he).2.1, (hE.e e he).1⟩
  (repeat' (first | ((with_reducible apply gL); (first | refine yL0 ?_ | refine yL ?_ | ((with_reducible apply gL_go); (first | (refine JL_goq (rall_s b sp tb lim E (by omega)) (hφ := xF) (h := ?_); rintro _ _ ⟨a, c, rfl, rfl⟩; try simp only [List.cons_append, List.nil_append]) | fail)) | (refine yM ?_; intro _) | fail)) | ((with_reducible apply gD); (first | (refine JD_nil ?_; try simp only [List.cons_append, List.nil_append]) | (refine JD_bar ?_; try simp only [List.cons_append, List.nil_append]) | refine yD ?_ | ((with_reducible apply gD_go); (first | (refine JD_goq (rall_s b sp tb lim E (by omega)) (hφ := xF) (h := ?_); rintro _ _ ⟨a, c, rfl, rfl⟩; try simp only [List.cons_append, List.nil_append]) | fail)) | (refine yE ?_; intro _) | fail)) | refine yJ ?_ | ((with_reducible apply gJ_if); (first | (refine J_if xR ?_ ?_ <;> intro _ <;> (try (exfalso; first | contradiction | omega))) | (refine J_ifb xR ?_ ?_ <;> (intro hgb; subst hgb)) | (refine J_ifb xR ?_ ?_ <;> intro _) | fail)) | refine J_draw (id := 3) [0, 1, 2, 3, 4, 5, 6, 7, 8, 9, 10] [11] mixed xC xD xD ?_ | refine J_draw (id := 5) [0, 1, 2, 3, 4, 5] [6] mixed xC xD xD ?_ | fail))
  generalize hL : T.keysE E = L at *
  refine J_loop (α := Nat) 0 (fun x => L.length - x) (fun x => x ≤ L.length) (fun x => [(0, .pointer (some ⟨b, 0, none⟩)), (7, .slice a L.length c), (8, .int .i64 L.length), (9, .int .i64 x)]) (fun x => [pts b (tbC sp lim tb) 72, T.trA tb (markE E (L.take x)), Ar 41 2 pfC (.slice a L.length c) L]) (Nat.zero_le _) ⟨rfl, rfl, rfl, rfl, trivial⟩ (fun w H => H.sel xZ) ?_
  intro k hk
  by_cases hlt : k < L.length
  · obtain ⟨p, hs2⟩ : ∃ p, L[k]? = some p := ⟨_, List.getElem?_eq_getElem hlt⟩
    have hpp := hkn p (List.mem_of_getElem? hs2)
    have hlen := (markE_srt (L.take k) E hE.s).2
    have htk : (L.take k).length = k := by rw [List.length_take]; omega
    rw [htk] at hlen
    have hsn := markE_snoc E (L.take k) p
    obtain ⟨E1, hE1⟩ : ∃ E1, markE E (L.take k) = E1 := ⟨_, rfl⟩
    rw [hE1] at hlen hsn ⊢
    refine J_fact (φ := T.EOk E1) (fun w H => T.trOk H xA) ?_
    intro hE2
    obtain ⟨o, ho⟩ : ∃ o, T.oldV E1 p = o := ⟨_, rfl⟩
    have hox : T.VN o := by rw [← ho]; exact oldV_n hE2 p
    have k := T.get_old tb E1 p hpp.1 o ho _ rfl
    have kp := T.put_a tb E1 p (o.1, true) hpp.1 hox (by omega)
    rw [T.putE_ok hpp.2 (.inr (by omega))] at kp
    dsimp only at kp
    rw [ho] at hsn
    (repeat' (first | ((with_reducible apply gL); (first | refine yL0 ?_ | refine yL ?_ | ((with_reducible apply gL_go); (first | (refine JL_goq (k) (hφ := xF) (h := ?_); rintro _ _ ⟨rfl, rfl⟩; try simp only [List.cons_append, List.nil_append]) | (refine JL_goq (kp) (hφ := xF) (h := ?_); rintro _ _ ⟨rfl, rfl⟩; try simp only [List.cons_append, List.nil_append]) | fail)) | (refine yM ?_; intro _) | fail)) | ((with_reducible apply gD); (first | (refine JD_nil ?_; try simp only [List.cons_append, List.nil_append]) | (refine JD_bar ?_; try simp only [List.cons_append, List.nil_append]) | refine yD ?_ | ((with_reducible apply gD_go); (first | (refine JD_goq (k) (hφ := xF) (h := ?_); rintro _ _ ⟨rfl, rfl⟩; try simp only [List.cons_append, List.nil_append]) | (refine JD_goq (kp) (hφ := xF) (h := ?_); rintro _ _ ⟨rfl, rfl⟩; try simp only [List.cons_append, List.nil_append]) | fail)) | (refine yE ?_; intro _) | fail)) | refine yJ ?_ | ((with_reducible apply gJ_if); (first | (refine J_if xR ?_ ?_ <;> intro _ <;> (try (exfalso; first | contradiction | omega))) | (refine J_ifb xR ?_ ?_ <;> (intro hgb; subst hgb)) | (refine J_ifb xR ?_ ?_ <;> intro _) | fail)) | refine J_draw (id := 3) [0, 1, 2, 3, 4, 5, 6, 7, 8, 9, 10] [11] mixed xC xD xD ?_ | refine J_draw (id := 5) [0, 1, 2, 3, 4, 5] [6] mixed xC xD xD ?_ | fail))
    refine J_again (_ + 1) (by omega) (by omega) ⟨rfl, rfl, rfl, rfl, trivial⟩ (fun w H => ?_)
    rw [take_snoc hs2, hsn]
    exact H.sel xZ
  · obtain rfl : k = L.length := by omega
    rw [List.take_length]
    (repeat' (first | ((with_reducible apply gL); (first | refine yL0 ?_ | refine yL ?_ | (refine yM ?_; intro _) | fail)) | ((with_reducible apply gD); (first | (refine JD_nil ?_; try simp only [List.cons_append, List.nil_append]) | (refine JD_bar ?_; try simp only [List.cons_append, List.nil_append]) | refine yD ?_ | (refine yE ?_; intro _) | fail)) | refine yJ ?_ | ((with_reducible apply gJ_if); (first | (refine J_if xR ?_ ?_ <;> intro _ <;> (try (exfalso; first | contradiction | omega))) | (refine J_ifb xR ?_ ?_ <;> (intro hgb; subst hgb)) | (refine J_ifb xR ?_ ?_ <;> intro _) | fail)) | refine J_draw (id := 3) [0, 1, 2, 3, 4, 5, 6, 7, 8, 9, 10] [11] mixed xC xD xD ?_ | refine J_draw (id := 5) [0, 1, 2, 3, 4, 5] [6] mixed xC xD xD ?_ | fail))
    exact J_end0 rfl fun w H => ⟨_, rfl, H.sel xZ⟩
end Go.Proofs.YtnhabkipjmgaaaaGreat
namespace Go.Proofs.YtnhabkipjmgaaaaGreat
set_option linter.unusedSimpArgs false
set_option linter.unusedVariables false
set_option maxRecDepth 20000
set_option maxHeartbeats 4000000
open Go.RowKit Go.Pm

open T (Pf PfN Rt Ah pfC)
section
variable (b sp tb : Nat) (lim : Int) (E : List T.Ent) (S : List En) (c : Int) (u : Up)
theorem upz_s (B : Int) (hB0 : 0 ≤ B) (hB : B ≤ 100000) (hu : UpN u) (hn : E.length ≤ 2000) (hI : I64 lim) (hf : ¬ ((E.length : Int) - (goneF E (upL u) u.wd).length + freshN E (upL u) > lim)) (hs : StOk B S c) (hne : upL u = []) :
    Pact Tryz.prog 12 #[.pointer (some ⟨b, 0, none⟩), .agg (upC u).toArray] (fun w => UpV w u) (rtL b sp tb lim E S c)
    (fun v L' => ∃ (σ1 : Tb) (R : List Pf) (a : Option Addr) (cc : Nat), σ1 = dropF ⟨E, S, c⟩ (goneF E (upL u) u.wd) ∧ R = srtP (goneF E (upL u) u.wd) ∧ v = .tuple #[.slice a R.length cc, .int .i64 0] ∧ L' = [pts b (tbC sp lim tb) 72, T.trA tb σ1.E, stoA sp σ1.S σ1.c, Ar 41 2 pfC (.slice a R.length cc) R]) := by
  refine pact Tryz.func12 rfl Tryz.ntmps12 rfl ?_
  intro W K hK
  have hgl := goneF_len E (upL u) u.wd
  have hwl := hu.wl
  have hfl := freshN_le E (upL u)
  have hgp : ∀ p ∈ goneF E (upL u) u.wd, PfN p := fun p hp => hu.wd p (mem_goneF.1 hp).1
  have hls := upL_srt u
  have kt := told_u u hu
  have hlpos : (upL u).length = 0 := by rw [hne]; rfl
  generalize hL : upL u = L at *
  generalize hG : goneF E L u.wd = G at *
  generalize hF : freshN E L = F at *
  (repeat' (first | ((with_reducible apply gL); (first | refine yL0 ?_ | refine yL ?_ | ((with_reducible apply gL_go); (first | (refine JL_goq (ris_s b sp tb lim) (hφ := xF) (h := ?_); rintro _ _ ⟨rfl, rfl⟩; try simp only [List.cons_append, List.nil_append]) | (refine JL_goq (kt) (hφ := (by (try simp only [List.cons_append, List.nil_append]); exact fun w hr => hK w hr.1)) (h := ?_); rintro _ _ ⟨a, c1, rfl, rfl⟩; try simp only [List.cons_append, List.nil_append]) | fail)) | (refine yM ?_; intro _) | (refine yA ?_; intro _ _ _ _) | fail)) | ((with_reducible apply gD); (first | (refine JD_nil ?_; try simp only [List.cons_append, List.nil_append]) | (refine JD_bar ?_; try simp only [List.cons_append, List.nil_append]) | refine yD ?_ | ((with_reducible apply gD_go); (first | (refine JD_goq (ris_s b sp tb lim) (hφ := xF) (h := ?_); rintro _ _ ⟨rfl, rfl⟩; try simp only [List.cons_append, List.nil_append]) | (refine JD_goq (kt) (hφ := (by (try simp only [List.cons_append, List.nil_append]); exact fun w hr => hK w hr.1)) (h := ?_); rintro _ _ ⟨a, c1, rfl, rfl⟩; try simp only [List.cons_append, List.nil_append]) | fail)) | fail)) | refine yJ ?_ | ((with_reducible apply gJ_if); (first | (refine J_if xR ?_ ?_ <;> intro _ <;> (try (exfalso; first | contradiction | omega))) | (refine J_ifb xR ?_ ?_ <;> (intro hgb; subst hgb)) | (refine J_ifb xR ?_ ?_ <;> intro _) | fail)) | refine J_draw (id := 5) [0, 1, 2, 3, 5, 6, 8, 9, 12, 13, 14, 15, 4, 7, 10, 11] [16] mixed xC xD xD ?_ | refine J_draw (id := 9) [0, 1, 2, 3, 4, 5] [6, 7, 8, 9, 10, 11] mixed xC xD xD ?_ | fail))
  have kg := gone_s b sp tb lim E a c1 _ L rfl hls (by omega) u hu
  rw [hG] at kg
  have kf := fresh_s b tb E a c1 _ L rfl (by omega) (fun p hp => by rw [hne] at hp; exact absurd hp List.not_mem_nil)
  rw [hF] at kf
  (repeat' (first | ((with_reducible apply gL); (first | refine yL0 ?_ | refine yL ?_ | ((with_reducible apply gL_go); (first | (refine JL_goq (kg) (hφ := (by (try simp only [List.cons_append, List.nil_append]); exact fun w hr => hK w hr.1)) (h := ?_); rintro _ _ ⟨a2, c2, rfl, rfl⟩; try simp only [List.cons_append, List.nil_append]) | (refine JL_goq (T.len_a tb E) (hφ := xF) (h := ?_); rintro _ _ ⟨rfl, rfl⟩; try simp only [List.cons_append, List.nil_append]) | (refine JL_goq (kf) (hφ := (by (try simp only [List.cons_append, List.nil_append]); exact fun w hr => hr.cell xA rfl)) (h := ?_); rintro _ _ ⟨rfl, rfl⟩; try simp only [List.cons_append, List.nil_append]) | fail)) | (refine yM ?_; intro _) | (refine yA ?_; intro _ _ _ _) | fail)) | ((with_reducible apply gD); (first | (refine JD_nil ?_; try simp only [List.cons_append, List.nil_append]) | (refine JD_bar ?_; try simp only [List.cons_append, List.nil_append]) | refine yD ?_ | ((with_reducible apply gD_go); (first | (refine JD_goq (kg) (hφ := (by (try simp only [List.cons_append, List.nil_append]); exact fun w hr => hK w hr.1)) (h := ?_); rintro _ _ ⟨a2, c2, rfl, rfl⟩; try simp only [List.cons_append, List.nil_append]) | (refine JD_goq (T.len_a tb E) (hφ := xF) (h := ?_); rintro _ _ ⟨rfl, rfl⟩; try simp only [List.cons_append, List.nil_append]) | (refine JD_goq (kf) (hφ := (by (try simp only [List.cons_append, List.nil_append]); exact fun w hr => hr.cell xA rfl)) (h := ?_); rintro _ _ ⟨rfl, rfl⟩; try simp only [List.cons_append, List.nil_append]) | fail)) | fail)) | refine yJ ?_ | ((with_reducible apply gJ_if); (first | (refine J_if xR ?_ ?_ <;> intro _ <;> (try (exfalso; first | contradiction | omega))) | (refine J_ifb xR ?_ ?_ <;> (intro hgb; subst hgb)) | (refine J_ifb xR ?_ ?_ <;> intro _) | fail)) | refine J_draw (id := 5) [0, 1, 2, 3, 5, 6, 8, 9, 12, 13, 14, 15, 4, 7, 10, 11] [16] mixed xC xD xD ?_ | refine J_draw (id := 9) [0, 1, 2, 3, 4, 5] [6, 7, 8, 9, 10, 11] mixed xC xD xD ?_ | fail))
  all_goals (first | (exfalso; omega) | skip)
  rename_i ub hq1 hq2
  obtain ⟨σ0, hσ0⟩ : ∃ σ0 : Tb, σ0 = ⟨E, S, c⟩ := ⟨_, rfl⟩
  have hst0 : StOk B σ0.S σ0.c := by rw [hσ0]; exact hs
  have hlen0 : σ0.E.length ≤ 2000 := by rw [hσ0]; exact hn
  refine J_loop (α := Nat) 0 (fun x => G.length - x) (fun x => x ≤ G.length) (fun x => [(0, .pointer (some ⟨b, 0, none⟩)), (3, .pointer (some ⟨ub, 0, none⟩)), (6, .slice a L.length c1), (7, .slice a2 G.length c2), (8, .int .i64 0), (9, .int .i64 0), (55, .slice a2 G.length c2), (56, .int .i64 G.length), (57, .int .i64 x)]) (fun x => [pts b (tbC sp lim tb) 72, T.trA tb (dropF σ0 (G.take x)).E, stoA sp (dropF σ0 (G.take x)).S (dropF σ0 (G.take x)).c, pts ub (upC u) 31, Ar 41 2 pfC (.slice a L.length c1) L, Ar 41 2 pfC (.slice a2 G.length c2) G]) (Nat.zero_le _) ⟨rfl, rfl, rfl, rfl, rfl, rfl, rfl, rfl, rfl, trivial⟩ (fun w H => by rw [List.take_zero, hσ0]; exact H.sel xZ) ?_
  intro k hk
  by_cases hlt : k < G.length
  · obtain ⟨p, hs2⟩ : ∃ p, G[k]? = some p := ⟨_, List.getElem?_eq_getElem hlt⟩
    have hst := dropF_ok (G.take k) σ0 hst0
    have hlen := dropF_len (G.take k) σ0
    obtain ⟨τ, hτ⟩ : ∃ τ, dropF σ0 (G.take k) = τ := ⟨_, rfl⟩
    rw [hτ] at hst hlen ⊢
    obtain ⟨E1, S1, c3⟩ := τ
    dsimp only at hst hlen ⊢
    have kd := rdrop_s B (by omega) b sp tb lim E1 S1 _ c3 p _ (hgp p (List.mem_of_getElem? hs2)) rfl (by omega) hst rfl
    (repeat' (first | ((with_reducible apply gL); (first | refine yL0 ?_ | refine yL ?_ | ((with_reducible apply gL_go); (first | (refine JL_goq (kd) (hφ := xF) (h := ?_); rintro _ _ rfl; try simp only [List.cons_append, List.nil_append]) | fail)) | (refine yM ?_; intro _) | (refine yA ?_; intro _ _ _ _) | fail)) | ((with_reducible apply gD); (first | (refine JD_nil ?_; try simp only [List.cons_append, List.nil_append]) | (refine JD_bar ?_; try simp only [List.cons_append, List.nil_append]) | refine yD ?_ | ((with_reducible apply gD_go); (first | (refine JD_goq (kd) (hφ := xF) (h := ?_); rintro _ _ rfl; try simp only [List.cons_append, List.nil_append]) | fail)) | fail)) | refine yJ ?_ | ((with_reducible apply gJ_if); (first | (refine J_if xR ?_ ?_ <;> intro _ <;> (try (exfalso; first | contradiction | omega))) | (refine J_ifb xR ?_ ?_ <;> (intro hgb; subst hgb)) | (refine J_ifb xR ?_ ?_ <;> intro _) | fail)) | refine J_draw (id := 5) [0, 1, 2, 3, 5, 6, 8, 9, 12, 13, 14, 15, 4, 7, 10, 11] [16] mixed xC xD xD ?_ | refine J_draw (id := 9) [0, 1, 2, 3, 4, 5] [6, 7, 8, 9, 10, 11] mixed xC xD xD ?_ | fail))
    refine J_again (k + 1) (by omega) (by omega) ⟨rfl, rfl, rfl, rfl, rfl, rfl, rfl, rfl, rfl, trivial⟩ (fun w H => ?_)
    rw [take_snoc hs2, dropF_snoc, hτ]
    exact H.sel xZ
  obtain rfl : k = G.length := by omega
  rw [List.take_length]
  obtain ⟨σ1, hσ1⟩ : ∃ σ1, dropF σ0 G = σ1 := ⟨_, rfl⟩
  rw [hσ1]
  (repeat' (first | ((with_reducible apply gL); (first | refine yL0 ?_ | refine yL ?_ | (refine yM ?_; intro _) | (refine yA ?_; intro _ _ _ _) | fail)) | ((with_reducible apply gD); (first | (refine JD_nil ?_; try simp only [List.cons_append, List.nil_append]) | (refine JD_bar ?_; try simp only [List.cons_append, List.nil_append]) | refine yD ?_ | fail)) | refine yJ ?_ | ((with_reducible apply gJ_if); (first | (refine J_if xR ?_ ?_ <;> intro _ <;> (try (exfalso; first | contradiction | omega))) | (refine J_ifb xR ?_ ?_ <;> (intro hgb; subst hgb)) | (refine J_ifb xR ?_ ?_ <;> intro _) | fail)) | refine J_draw (id := 5) [0, 1, 2, 3, 5, 6, 8, 9, 12, 13, 14, 15, 4, 7, 10, 11] [16] mixed xC xD xD ?_ | refine J_draw (id := 9) [0, 1, 2, 3, 4, 5] [6, 7, 8, 9, 10, 11] mixed xC xD xD ?_ | fail))
  refine J_loop (α := Unit) () (fun _ => 0) (fun _ => True) (fun x => [(0, .pointer (some ⟨b, 0, none⟩)), (3, .pointer (some ⟨ub, 0, none⟩)), (6, .slice a L.length c1), (7, .slice a2 G.length c2), (8, .int .i64 0), (9, .int .i64 0), (65, .slice a L.length c1), (66, .int .i64 L.length), (67, .int .i64 0)]) (fun x => [pts b (tbC sp lim tb) 72, T.trA tb σ1.E, stoA sp σ1.S σ1.c, pts ub (upC u) 31, Ar 41 2 pfC (.slice a L.length c1) L, Ar 41 2 pfC (.slice a2 G.length c2) G]) trivial ⟨rfl, rfl, rfl, rfl, rfl, rfl, rfl, rfl, rfl, trivial⟩ (fun w H => H.sel xZ) ?_
  intro _ _
  have ksr := sort_s a2 c2 _ G rfl (by omega)
  (repeat' (first | ((with_reducible apply gL); (first | refine yL0 ?_ | refine yL ?_ | ((with_reducible apply gL_go); (first | (refine JL_goq (ksr) (hφ := xF) (h := ?_); rintro _ _ ⟨rfl, rfl⟩; try simp only [List.cons_append, List.nil_append]) | fail)) | (refine yM ?_; intro _) | (refine yA ?_; intro _ _ _ _) | fail)) | ((with_reducible apply gD); (first | (refine JD_nil ?_; try simp only [List.cons_append, List.nil_append]) | (refine JD_bar ?_; try simp only [List.cons_append, List.nil_append]) | refine yD ?_ | ((with_reducible apply gD_go); (first | (refine JD_goq (ksr) (hφ := xF) (h := ?_); rintro _ _ ⟨rfl, rfl⟩; try simp only [List.cons_append, List.nil_append]) | fail)) | fail)) | refine yJ ?_ | ((with_reducible apply gJ_if); (first | (refine J_if xR ?_ ?_ <;> intro _ <;> (try (exfalso; first | contradiction | omega))) | (refine J_ifb xR ?_ ?_ <;> (intro hgb; subst hgb)) | (refine J_ifb xR ?_ ?_ <;> intro _) | fail)) | refine J_draw (id := 5) [0, 1, 2, 3, 5, 6, 8, 9, 12, 13, 14, 15, 4, 7, 10, 11] [16] mixed xC xD xD ?_ | refine J_draw (id := 9) [0, 1, 2, 3, 4, 5] [6, 7, 8, 9, 10, 11] mixed xC xD xD ?_ | fail))
  all_goals (first | (exfalso; omega) | skip)
  refine J_ret2 rfl (by rfl) (by rfl) fun w H => ⟨_, ⟨σ1, srtP G, a2, c2, by rw [← hσ1, hσ0], rfl, by rw [srtP_len], rfl⟩, ?_⟩
  rw [srtP_len]
  exact H.sel xZ
end
end Go.Proofs.YtnhabkipjmgaaaaGreat
