/-
  Aq11, Aq12, Aq13, Aq14, Aq15, Aq16, Rb4: merged.
-/
import Derived.Test.YtnhabkipjmgaaaaGreatZRibLimit11
namespace Go.Proofs.YtnhabkipjmgaaaaGreat
set_option linter.unusedSimpArgs false
set_option linter.unusedVariables false
set_option maxRecDepth 20000
set_option maxHeartbeats 4000000
open Go.RowKit Go.Pm

def oT (o : Int × List Int) : Tl := (224, o.1, o.2)
/-- Attributes as a list of what is put. -/
def attrT (x : Nf) : List Tl := [(64, 1, [x.origin]), (64, 2, pB x.path), (64, 3, num4 x.next)] ++ (medT x ++ atomT x ++ makT x ++ comT x) ++ x.others.map oT
def attrB (x : Nf) : List Int := tlsB (attrT x)
theorem ckO_all : ∀ (l : List (Int × List Int)) (n : Int), ckO l n = true → ∀ o ∈ l, n < o.1 ∧ o.1 ≤ 255 ∧ kno o.1 = false ∧ o.2.length ≤ 255
  | [], _, _, o, ho => absurd ho List.not_mem_nil
  | x :: l, n, h, o, ho => by
    unfold ckO at h
    split at h
    · cases h
    · rename_i hn
      rcases List.mem_cons.1 ho with rfl | ho
      · refine ⟨by omega, by omega, ?_, by omega⟩
        rcases hb : kno o.1 with _ | _
        · rfl
        · exact absurd (.inr (.inr (.inl hb))) hn
      · have := ckO_all l x.1 h o ho
        exact ⟨by omega, this.2⟩
theorem putB_len (f k : Int) (d : List Int) : (putB f k d).length ≤ 4 + d.length := by
  unfold putB
  split <;> simp <;> omega
theorem oT_len (l : List (Int × List Int)) (h : ∀ o ∈ l, o.2.length ≤ 255) : (tlsB (l.map oT)).length ≤ 259 * l.length := by
  induction l with
  | nil => exact Nat.le_refl _
  | cons o l ih =>
    have e : tlsB ((o :: l).map oT) = putB 224 o.1 o.2 ++ tlsB (l.map oT) := rfl
    have h1 := ih (fun x hx => h x (List.mem_cons_of_mem _ hx))
    have h2 := putB_len 224 o.1 o.2
    have h3 := h o (List.mem_cons_self ..)
    rw [e, List.length_append, List.length_cons]
    omega
theorem usual_e (wb : Nat) (l l' : List Int) (k : Int) (a : Option Addr) (c : Nat) (p : List Bs) (D : List Int) (hD : catB p = D) (hl' : l ++ putB (fl k) k D = l') (hk : 0 ≤ k ∧ k ≤ 255) (hkn : kno k = true) (hp : p.length ≤ 1000) (hd : D.length ≤ 65535) (hl : l.length ≤ 1000000000) : Pact Tryz.prog 119 #[.pointer (some ⟨wb, 0, none⟩), .int .i64 k, .slice a p.length c] (fun w => PartsV w a c p) [wrO wb l] (fun u L' => L' = [wrO wb l']) := by
  subst hD hl'
  exact usual_s wb l k a c p hk hkn hp hd hl
theorem perhaps_e (wb : Nat) (l l' : List Int) (d : At) (hd : AtF d) (hl' : l ++ tlsB (medT d.nf ++ atomT d.nf ++ makT d.nf ++ comT d.nf) = l') (hl : l.length ≤ 1000000) : Pact Tryz.prog 121 #[.pointer (some ⟨wb, 0, none⟩), .agg (atC d).toArray, .bool true] (fun w => AtV w d) [wrO wb l] (fun u L' => L' = [wrO wb l']) := by
  subst hl'
  exact perhaps_s wb l d hd hl
theorem put_e (wb : Nat) (l l' : List Int) (f k : Int) (a : Option Addr) (c : Nat) (p : List Bs) (D : List Int) (hD : catB p = D) (hl' : l ++ putB f k D = l') (hk : 0 ≤ k ∧ k ≤ 255) (hp : p.length ≤ 1000) (hd : D.length ≤ 65535) (hl : l.length ≤ 1000000000) : Pact Tryz.prog 123 #[.pointer (some ⟨wb, 0, none⟩), .int .u8 f, .int .i64 k, .slice a p.length c] (fun w => PartsV w a c p) [wrO wb l] (fun u L' => L' = [wrO wb l']) := by
  subst hD hl'
  exact put_s wb l f k a c p hk hp hd hl
theorem partsL {K : Hl} {R R1 R2 : List HP} {w : World} {g n b : Nat} {l : List Int} {cs : List Value} {T T' : TypeId} (hr : Rdw K R w) (t1 : Tk R (pts g [.slice (some ⟨b, 0, none⟩) n n] T) R1) (t2 : Tk R (pts b cs T') R2) (hy : NumsOf cs l) (hn : l.length = n) (hm : Nat.ble n 1000000 = true) : PartsV w (some ⟨g, 0, none⟩) 1 [⟨some ⟨b, 0, none⟩, n, l⟩] := by
  subst hn
  refine ⟨Src.lit (sz := 1) (m := 1) t1 rfl (by decide) w hr, fun s hs => ?_⟩
  obtain rfl := List.mem_singleton.1 hs
  exact Src.nums t2 hy (Nat.beq_refl _) hm w hr
theorem partsK {K : Hl} {R R1 : List HP} {w : World} {g n c : Nat} {a : Option Addr} {l : List Int} {T : TypeId} (hr : Rdw K R w) (t1 : Tk R (pts g [.slice a n c] T) R1) (hv : Vw w (.slice a n c) 1 n (flat byC l)) (hn : l.length = n) : PartsV w (some ⟨g, 0, none⟩) 1 [⟨a, c, l⟩] := by
  subst hn
  refine ⟨Src.lit (sz := 1) (m := 1) t1 rfl (by decide) w hr, fun s hs => ?_⟩
  obtain rfl := List.mem_singleton.1 hs
  exact hv
theorem okN_at {d : At} (h : okN d.nf = true) : (0 ≤ d.origin ∧ d.origin ≤ 2) ∧ ckP (pN d.path) 0 = true ∧ (d.next ≠ 0 ∧ d.next < 3758096384) ∧ (d.hasMaker = true → d.makerAS ≠ 0) ∧ d.comms.length ≤ 32 ∧ d.others.length ≤ 8 ∧ ckO (oN d.others) (-1) = true := by
  rcases Classical.em ((0 ≤ d.origin ∧ d.origin ≤ 2) ∧ ckP (pN d.path) 0 = true ∧ (d.next ≠ 0 ∧ d.next < 3758096384) ∧ (d.hasMaker = true → d.makerAS ≠ 0) ∧ d.comms.length ≤ 32 ∧ d.others.length ≤ 8 ∧ ckO (oN d.others) (-1) = true) with h1 | h1
  · exact h1
  · rw [okN_f h1] at h
    cases h
structure PutR (d : At) (v : Value) (L' : List HP) : Prop where
  ex : ∃ a c l, v = .tuple #[.slice a l.length c, .int .i64 (er (okN d.nf))] ∧ (okN d.nf = true → l = attrB d.nf) ∧ l.length ≤ 1000000 ∧ L' = [Ar 5 1 byC (.slice a l.length c) l]
theorem Put_s (d : At) (hd : AtF d) : Pact Tryz.prog 92 #[.agg (atC d).toArray, .bool true] (fun w => AtV w d) [] (PutR d) := by
  refine pact Tryz.func92 rfl Tryz.ntmps92 rfl ?_
  intro W K hK
  have hck := check_s d hd
  rcases hok : okN d.nf with _ | _
  · rw [hok] at hck
    (repeat' (first | ((with_reducible apply gL); (first | refine yL0 ?_ | refine yL ?_ | ((with_reducible apply gL_go); (first | (refine JL_goq (hck) (hφ := (by (try simp only [List.cons_append, List.nil_append]); exact fun w hr => hK w hr.1)) (h := ?_); rintro _ _ ⟨rfl, rfl⟩; try simp only [List.cons_append, List.nil_append]) | fail)) | (refine yM ?_; intro _) | ((with_reducible apply gL_gd); (first | (refine JL_guard xR xR ?_ ?_ <;> intro _ <;> (try (exfalso; first | contradiction | omega))) | (refine JL_guardb xR xR ?_ ?_ <;> (intro hgb; subst hgb)) | (refine JL_guardb xR xR ?_ ?_ <;> (intro hgb; fail_if_success (have : type_of% hgb := rfl))) | fail)) | fail)) | ((with_reducible apply gD); (first | (refine JD_nil ?_; try simp only [List.cons_append, List.nil_append]) | (refine JD_bar ?_; try simp only [List.cons_append, List.nil_append]) | refine yD ?_ | ((with_reducible apply gD_go); (first | (refine JD_goq (hck) (hφ := (by (try simp only [List.cons_append, List.nil_append]); exact fun w hr => hK w hr.1)) (h := ?_); rintro _ _ ⟨rfl, rfl⟩; try simp only [List.cons_append, List.nil_append]) | fail)) | (refine yE ?_; intro _) | fail)) | refine yJ ?_ | ((with_reducible apply gJ_if); (first | (refine J_if xR ?_ ?_ <;> intro _ <;> (try (exfalso; first | contradiction | omega))) | (refine J_ifb xR ?_ ?_ <;> (intro hgb; subst hgb)) | (refine J_ifb xR ?_ ?_ <;> intro _) | fail)) | refine J_draw (id := 14) [0, 1, 2, 4, 5, 3, 6, 7] [8] mixed xC xD xD ?_ | fail))
    refine J_ret2 rfl (by rfl) (by rfl) fun w H => ⟨_, ⟨none, 0, [], by rw [hok]; rfl, (by rw [hok]; exact fun h => absurd h (by decide)), by simp, rfl⟩, (Ow.arNil (e := 5) (sz := 1) (enc := byC) H).sel xZ⟩
  · rw [hok] at hck
    have hd1 := hd.path
    have hd3 := hd.others
    obtain ⟨⟨ho1, ho2⟩, hcp, _, _, _, _, hco⟩ := okN_at hok
    obtain ⟨hos, h64⟩ := (ckP_iff (pN d.path) 0 (by omega)).1 hcp
    have hall := ckO_all _ _ hco
    have hpl := pB_len (pN d.path)
    have hpn : (pN d.path).length = d.path.length := by simp [pN]
    obtain ⟨Pb, hPb⟩ : ∃ Pb, pB (pN d.path) = Pb := ⟨_, rfl⟩
    have hpp := pPut_s d.pa d.pc d.path (by omega) hd.num.path hcp
    rw [hPb] at hpl hpp
    have hpl2 : Pb.length ≤ 300 := by omega
    have hov : Kn K (fun w => Vw w (.slice d.oa d.others.length d.oc) 2 d.others.length (flat rwC d.others)) := hK.imp fun _ h => h.others.vw
    obtain ⟨l1, hl1⟩ : ∃ l1, [] ++ putB (fl 1) 1 [d.origin] = l1 := ⟨_, rfl⟩
    obtain ⟨l2, hl2⟩ : ∃ l2, l1 ++ putB (fl 2) 2 Pb = l2 := ⟨_, rfl⟩
    obtain ⟨l3, hl3⟩ : ∃ l3, l2 ++ putB (fl 3) 3 (num4 d.next) = l3 := ⟨_, rfl⟩
    obtain ⟨l4, hl4⟩ : ∃ l4, l3 ++ tlsB (medT d.nf ++ atomT d.nf ++ makT d.nf ++ comT d.nf) = l4 := ⟨_, rfl⟩
    have hn1 : l1.length ≤ 5 := by rw [← hl1, List.nil_append]; exact putB_len _ _ _
    have hn2 : l2.length ≤ 400 := by have := putB_len (fl 2) 2 Pb; rw [← hl2, List.length_append]; omega
    have hn3 : l3.length ≤ 500 := by have := putB_len (fl 3) 3 (num4 d.next); rw [← hl3, List.length_append]; have : (num4 d.next).length = 4 := rfl; omega
    have hn4 : l4.length ≤ 2000 := by
      have h1 := medT_len d.nf
      have h2 := atomT_len d.nf
      have h3 := makT_len d.nf
      have h4 : (tlsB (comT d.nf)).length ≤ 200 := by
        unfold comT
        split
        · exact Nat.zero_le _
        · have : tlsB [((192 : Int), (8 : Int), asB d.nf.comms)] = putB 192 8 (asB d.nf.comms) ++ [] := rfl
          have h5 := putB_len 192 8 (asB d.nf.comms)
          have h6 := asB_len d.nf.comms
          have h7 : d.nf.comms.length ≤ 40 := hd.comms
          rw [this, List.append_nil]
          omega
      rw [← hl4]
      simp only [tlsB_append, List.length_append]
      omega
    (repeat' (first | ((with_reducible apply gL); (first | refine yL0 ?_ | refine yL ?_ | ((with_reducible apply gL_go); (first | (refine JL_goq (hck) (hφ := (by (try simp only [List.cons_append, List.nil_append]); exact fun w hr => hK w hr.1)) (h := ?_); rintro _ _ ⟨rfl, rfl⟩; try simp only [List.cons_append, List.nil_append]) | (refine JL_goq (hpp) (hφ := (by (try simp only [List.cons_append, List.nil_append]); exact fun w hr => (hK w hr.1).path)) (h := ?_); rintro _ _ ⟨a1, c1, rfl, rfl⟩; try simp only [List.cons_append, List.nil_append]) | fail)) | (refine yM ?_; intro _) | ((with_reducible apply gL_gd); (first | (refine JL_guard xR xR ?_ ?_ <;> intro _ <;> (try (exfalso; first | contradiction | omega))) | (refine JL_guardb xR xR ?_ ?_ <;> (intro hgb; subst hgb)) | (refine JL_guardb xR xR ?_ ?_ <;> (intro hgb; fail_if_success (have : type_of% hgb := rfl))) | fail)) | fail)) | ((with_reducible apply gD); (first | (refine JD_nil ?_; try simp only [List.cons_append, List.nil_append]) | (refine JD_bar ?_; try simp only [List.cons_append, List.nil_append]) | refine yD ?_ | ((with_reducible apply gD_go); (first | (refine JD_goq (hck) (hφ := (by (try simp only [List.cons_append, List.nil_append]); exact fun w hr => hK w hr.1)) (h := ?_); rintro _ _ ⟨rfl, rfl⟩; try simp only [List.cons_append, List.nil_append]) | (refine JD_goq (hpp) (hφ := (by (try simp only [List.cons_append, List.nil_append]); exact fun w hr => (hK w hr.1).path)) (h := ?_); rintro _ _ ⟨a1, c1, rfl, rfl⟩; try simp only [List.cons_append, List.nil_append]) | fail)) | (refine yE ?_; intro _) | fail)) | refine yJ ?_ | ((with_reducible apply gJ_if); (first | (refine J_if xR ?_ ?_ <;> intro _ <;> (try (exfalso; first | contradiction | omega))) | (refine J_ifb xR ?_ ?_ <;> (intro hgb; subst hgb)) | (refine J_ifb xR ?_ ?_ <;> intro _) | fail)) | refine J_draw (id := 14) [0, 1, 2, 4, 5, 3, 6, 7] [8] mixed xC xD xD ?_ | fail))
    rename_i b0 wb _ _
    refine JL_heap (fun w H => wrShut (l := []) (Ow.arNil (e := 5) (sz := 1) (enc := byC) H) xZ rfl) ?_
    (repeat' (first | ((with_reducible apply gL); (first | refine yL0 ?_ | refine yL ?_ | ((with_reducible apply gL_go); (first | (refine JL_goq (usual_e wb [] l1 1 _ 1 [⟨some ⟨_, 0, none⟩, 1, [d.origin]⟩] [d.origin] rfl hl1 (by decide) (by decide) (by simp) (by simp) (by simp)) (hφ := (by (try simp only [List.cons_append, List.nil_append]); exact fun w hr => partsL (n := 1) hr xA xA (.cons .nil) rfl rfl)) (h := ?_); rintro _ _ rfl; try simp only [List.cons_append, List.nil_append]) | (refine JL_goq (usual_e wb l1 l2 2 _ 1 [⟨a1, c1, Pb⟩] Pb (by simp [catB]) hl2 (by decide) (by decide) (by simp) (by omega) (by omega)) (hφ := (by (try simp only [List.cons_append, List.nil_append]); exact fun w hr => parts1 (n := Pb.length) hr xA xA rfl)) (h := ?_); rintro _ _ rfl; try simp only [List.cons_append, List.nil_append]) | (refine JL_goq (num_s d.next hd.num.next) (hφ := xF) (h := ?_); rintro _ _ ⟨b4, rfl, rfl⟩; try simp only [List.cons_append, List.nil_append]) | (refine JL_goq (usual_e wb l2 l3 3 _ 1 [⟨some ⟨b4, 0, none⟩, 4, num4 d.next⟩] (num4 d.next) (by simp [catB]) hl3 (by decide) (by decide) (by simp) (by simp [num4]) (by omega)) (hφ := (by (try simp only [List.cons_append, List.nil_append]); exact fun w hr => parts1 (n := 4) hr xA xA rfl)) (h := ?_); rintro _ _ rfl; try simp only [List.cons_append, List.nil_append]) | (refine JL_goq (perhaps_e wb l3 l4 d hd hl4 (by omega)) (hφ := (by (try simp only [List.cons_append, List.nil_append]); exact fun w hr => hK w hr.1)) (h := ?_); rintro _ _ rfl; try simp only [List.cons_append, List.nil_append]) | fail)) | (refine yM ?_; intro _) | ((with_reducible apply gL_gd); (first | (refine JL_guard xR xR ?_ ?_ <;> intro _ <;> (try (exfalso; first | contradiction | omega))) | (refine JL_guardb xR xR ?_ ?_ <;> (intro hgb; subst hgb)) | (refine JL_guardb xR xR ?_ ?_ <;> (intro hgb; fail_if_success (have : type_of% hgb := rfl))) | fail)) | fail)) | ((with_reducible apply gD); (first | (refine JD_nil ?_; try simp only [List.cons_append, List.nil_append]) | (refine JD_bar ?_; try simp only [List.cons_append, List.nil_append]) | refine yD ?_ | ((with_reducible apply gD_go); (first | (refine JD_goq (usual_e wb [] l1 1 _ 1 [⟨some ⟨_, 0, none⟩, 1, [d.origin]⟩] [d.origin] rfl hl1 (by decide) (by decide) (by simp) (by simp) (by simp)) (hφ := (by (try simp only [List.cons_append, List.nil_append]); exact fun w hr => partsL (n := 1) hr xA xA (.cons .nil) rfl rfl)) (h := ?_); rintro _ _ rfl; try simp only [List.cons_append, List.nil_append]) | (refine JD_goq (usual_e wb l1 l2 2 _ 1 [⟨a1, c1, Pb⟩] Pb (by simp [catB]) hl2 (by decide) (by decide) (by simp) (by omega) (by omega)) (hφ := (by (try simp only [List.cons_append, List.nil_append]); exact fun w hr => parts1 (n := Pb.length) hr xA xA rfl)) (h := ?_); rintro _ _ rfl; try simp only [List.cons_append, List.nil_append]) | (refine JD_goq (num_s d.next hd.num.next) (hφ := xF) (h := ?_); rintro _ _ ⟨b4, rfl, rfl⟩; try simp only [List.cons_append, List.nil_append]) | (refine JD_goq (usual_e wb l2 l3 3 _ 1 [⟨some ⟨b4, 0, none⟩, 4, num4 d.next⟩] (num4 d.next) (by simp [catB]) hl3 (by decide) (by decide) (by simp) (by simp [num4]) (by omega)) (hφ := (by (try simp only [List.cons_append, List.nil_append]); exact fun w hr => parts1 (n := 4) hr xA xA rfl)) (h := ?_); rintro _ _ rfl; try simp only [List.cons_append, List.nil_append]) | (refine JD_goq (perhaps_e wb l3 l4 d hd hl4 (by omega)) (hφ := (by (try simp only [List.cons_append, List.nil_append]); exact fun w hr => hK w hr.1)) (h := ?_); rintro _ _ rfl; try simp only [List.cons_append, List.nil_append]) | fail)) | (refine yE ?_; intro _) | fail)) | refine yJ ?_ | ((with_reducible apply gJ_if); (first | (refine J_if xR ?_ ?_ <;> intro _ <;> (try (exfalso; first | contradiction | omega))) | (refine J_ifb xR ?_ ?_ <;> (intro hgb; subst hgb)) | (refine J_ifb xR ?_ ?_ <;> intro _) | fail)) | refine J_draw (id := 14) [0, 1, 2, 4, 5, 3, 6, 7] [8] mixed xC xD xD ?_ | fail))
    refine J_loop (α := Nat) 0 (fun x => d.others.length - x) (fun x => x ≤ d.others.length) (fun x => [(7, .pointer (some ⟨wb, 0, none⟩)), (85, .slice d.oa d.others.length d.oc), (86, .int .i64 d.others.length), (87, .int .i64 x)]) (fun x => [wrO wb (l4 ++ tlsB ((oN (d.others.take x)).map oT))]) (Nat.zero_le _) ⟨rfl, rfl, rfl, rfl, trivial⟩ (fun w H => by simp only [List.take_zero, oN, List.map_nil, tlsB, List.flatMap_nil, List.append_nil]; exact H.sel xZ) ?_
    intro k hk
    have hlk : ∀ j, (l4 ++ tlsB ((oN (d.others.take j)).map oT)).length ≤ 10000 := by
      intro j
      have h1 := oT_len (oN (d.others.take j)) (fun o ho => (hall o (by
        obtain ⟨r, hr, rfl⟩ := List.mem_map.1 ho
        exact List.mem_map.2 ⟨r, List.take_subset _ _ hr, rfl⟩)).2.2.2)
      have h2 : (oN (d.others.take j)).length ≤ 9 := by simp only [oN, List.length_map, List.length_take]; omega
      rw [List.length_append]
      omega
    obtain ⟨lk, hlke⟩ : ∃ lk, l4 ++ tlsB ((oN (d.others.take k)).map oT) = lk := ⟨_, rfl⟩
    have hlk1 := hlk k
    rw [hlke] at hlk1 ⊢
    by_cases hlt : k < d.others.length
    · obtain ⟨s, hs⟩ : ∃ s, d.others[k]? = some s := ⟨_, List.getElem?_eq_getElem hlt⟩
      have hm := List.mem_of_getElem? hs
      have hsn1 := (hd.num.others s hm).2.1
      obtain ⟨hk1, hk2, _, hk3⟩ := hall (s.kind, s.data) (List.mem_map.2 ⟨s, hm, rfl⟩)
      dsimp only at hk1 hk2 hk3
      have hu : Kn K (fun w => Vw w (.slice s.a s.data.length s.c) 1 s.data.length (flat byC s.data)) := hK.imp fun _ h => h.others.raws s hm
      have he : lk ++ putB 224 s.kind s.data = l4 ++ tlsB ((oN (d.others.take (k + 1))).map oT) := by
        rw [← hlke, take_snoc hs]
        simp [oN, tlsB, tlB, oT]
      (repeat' (first | ((with_reducible apply gL); (first | refine yL0 ?_ | refine yL ?_ | ((with_reducible apply gL_go); (first | (refine JL_goq (put_e wb lk _ 224 s.kind _ 1 [⟨s.a, s.c, s.data⟩] s.data (by simp [catB]) he (by omega) (by simp) (by omega) (by omega)) (hφ := (by (try simp only [List.cons_append, List.nil_append]); exact fun w hr => partsK (n := s.data.length) hr xA (hu w hr.1) rfl)) (h := ?_); rintro _ _ rfl; try simp only [List.cons_append, List.nil_append]) | fail)) | (refine yM ?_; intro _) | ((with_reducible apply gL_gd); (first | (refine JL_guard xR xR ?_ ?_ <;> intro _ <;> (try (exfalso; first | contradiction | omega))) | (refine JL_guardb xR xR ?_ ?_ <;> (intro hgb; subst hgb)) | (refine JL_guardb xR xR ?_ ?_ <;> (intro hgb; fail_if_success (have : type_of% hgb := rfl))) | fail)) | fail)) | ((with_reducible apply gD); (first | (refine JD_nil ?_; try simp only [List.cons_append, List.nil_append]) | (refine JD_bar ?_; try simp only [List.cons_append, List.nil_append]) | refine yD ?_ | ((with_reducible apply gD_go); (first | (refine JD_goq (put_e wb lk _ 224 s.kind _ 1 [⟨s.a, s.c, s.data⟩] s.data (by simp [catB]) he (by omega) (by simp) (by omega) (by omega)) (hφ := (by (try simp only [List.cons_append, List.nil_append]); exact fun w hr => partsK (n := s.data.length) hr xA (hu w hr.1) rfl)) (h := ?_); rintro _ _ rfl; try simp only [List.cons_append, List.nil_append]) | fail)) | (refine yE ?_; intro _) | fail)) | refine yJ ?_ | ((with_reducible apply gJ_if); (first | (refine J_if xR ?_ ?_ <;> intro _ <;> (try (exfalso; first | contradiction | omega))) | (refine J_ifb xR ?_ ?_ <;> (intro hgb; subst hgb)) | (refine J_ifb xR ?_ ?_ <;> intro _) | fail)) | refine J_draw (id := 14) [0, 1, 2, 4, 5, 3, 6, 7] [8] mixed xC xD xD ?_ | fail))
      exact J_again (k + 1) (by omega) (by omega) ⟨rfl, rfl, rfl, rfl, trivial⟩ (fun w H => H.sel xZ)
    · have hke : k = d.others.length := by omega
      have hl : lk = attrB d.nf := by
        rw [← hlke, hke, List.take_length, ← hl4, ← hl3, ← hl2, ← hl1, ← hPb]
        unfold attrB attrT
        simp only [tlsB_append, List.append_assoc]
        simp [tlsB, tlB, fl, At.nf]
      refine J_open (fun w H => wrOpen H .here) ?_
      rintro ⟨ad, cc⟩
      dsimp only
      (repeat' (first | ((with_reducible apply gL); (first | refine yL0 ?_ | refine yL ?_ | (refine yM ?_; intro _) | ((with_reducible apply gL_gd); (first | (refine JL_guard xR xR ?_ ?_ <;> intro _ <;> (try (exfalso; first | contradiction | omega))) | (refine JL_guardb xR xR ?_ ?_ <;> (intro hgb; subst hgb)) | (refine JL_guardb xR xR ?_ ?_ <;> (intro hgb; fail_if_success (have : type_of% hgb := rfl))) | fail)) | fail)) | ((with_reducible apply gD); (first | (refine JD_nil ?_; try simp only [List.cons_append, List.nil_append]) | (refine JD_bar ?_; try simp only [List.cons_append, List.nil_append]) | refine yD ?_ | (refine yE ?_; intro _) | fail)) | refine yJ ?_ | ((with_reducible apply gJ_if); (first | (refine J_if xR ?_ ?_ <;> intro _ <;> (try (exfalso; first | contradiction | omega))) | (refine J_ifb xR ?_ ?_ <;> (intro hgb; subst hgb)) | (refine J_ifb xR ?_ ?_ <;> intro _) | fail)) | refine J_draw (id := 14) [0, 1, 2, 4, 5, 3, 6, 7] [8] mixed xC xD xD ?_ | fail))
      exact J_ret2 rfl (by rfl) (by rfl) fun w H => ⟨_, ⟨ad, cc, lk, by rw [hok]; rfl, fun _ => hl, by omega, rfl⟩, H.sel xZ⟩
/-- The key: the bytes, and the local preference. -/
def locB (x : Nf) : List Int := match x.loc with | none => [0] | some n => num4 n ++ [1]
def keyB (x : Nf) : List Int := attrB x ++ locB x
theorem locB_t {d : At} (h : d.hasLocal = true) : locB d.nf = num4 d.loc ++ [1] := by simp [locB, At.nf, h]
theorem locB_f {d : At} (h : d.hasLocal = false) : locB d.nf = [0] := by simp [locB, At.nf, h]
theorem keyOf_s (d : At) (hd : AtF d) : Pact Tryz.prog 72 #[.agg (atC d).toArray] (fun w => AtV w d) [] (fun u L' => ∃ k, u = .tuple #[.string k, .int .i64 (er (okN d.nf))] ∧ (okN d.nf = true → k = strOfNums (keyB d.nf)) ∧ L' = []) := by
  refine pact Tryz.func72 rfl Tryz.ntmps72 rfl ?_
  intro W K hK
  obtain ⟨hc0, hc1⟩ := hd.num.loc
  (repeat' (first | ((with_reducible apply gL); (first | refine yL0 ?_ | ((with_reducible apply gL_c_append); (first | (refine JL_apN (tabE etab_ok xR) xR xR xA xA (by first | exact .cons (.cons (.cons (.cons (.cons .nil)))) | exact .cons .nil) rfl rfl xC (by omega) xR xR ?_; intro ad4 cc4 _ _) | fail)) | ((with_reducible apply gL_convert); (first | (refine JL_p rfl xR xR (pe_str xR xC xC (Src.ar xA)) ?_) | fail)) | refine yL ?_ | ((with_reducible apply gL_go); (first | (refine JL_goq (Put_s d hd) (hφ := (by (try simp only [List.cons_append, List.nil_append]); exact fun w hr => hK w hr.1)) (h := ?_); rintro _ _ ⟨a1, c1, l, rfl, hl, hl2, rfl⟩; try simp only [List.cons_append, List.nil_append]) | fail)) | (refine yM ?_; intro _) | (refine yA ?_; intro _ _ _ _) | fail)) | refine yJ ?_ | ((with_reducible apply gJ_if); (first | (refine J_if xR ?_ ?_ <;> intro _ <;> (try (exfalso; first | contradiction | omega))) | (refine J_ifb xR ?_ ?_ <;> (intro hgb; subst hgb)) | (refine J_ifb xR ?_ ?_ <;> intro _) | fail)) | fail))
  · rename_i hb _ _ _
    refine J_ret2 rfl (by rfl) (by rfl) fun w H => ⟨_, ⟨_, rfl, fun h => ?_, rfl⟩, H.sel .nil⟩
    rw [hl h]
    unfold keyB
    rw [locB_t hb]
    rfl
  · rename_i hb _ _ _
    refine J_ret2 rfl (by rfl) (by rfl) fun w H => ⟨_, ⟨_, rfl, fun h => ?_, rfl⟩, H.sel .nil⟩
    rw [hl h]
    unfold keyB
    rw [locB_f hb]
end Go.Proofs.YtnhabkipjmgaaaaGreat
namespace Go.Proofs.YtnhabkipjmgaaaaGreat
set_option linter.unusedSimpArgs false
set_option linter.unusedVariables false
open Go.RowKit Go.Pm

structure NfN (x : Nf) : Prop where
  next : U32 x.next
  med : ∀ m, x.med = some m → U32 m
  loc : ∀ m, x.loc = some m → U32 m
  maker : ∀ m, x.maker = some m → U32 m.1 ∧ U32 m.2
  path : ∀ s ∈ x.path, ∀ z ∈ s.2, U32 z
  comms : ∀ z ∈ x.comms, U32 z
  others : ∀ o ∈ x.others, ∀ z ∈ o.2, U8 z
theorem At.nfN {d : At} (h : AtN d) : NfN d.nf := by
  refine ⟨h.next, fun m hm => ?_, fun m hm => ?_, fun m hm => ?_, fun s hs z hz => ?_, h.comms, fun o ho z hz => ?_⟩
  · unfold At.nf at hm; dsimp only at hm; split at hm <;> cases hm; exact h.med
  · unfold At.nf at hm; dsimp only at hm; split at hm <;> cases hm; exact h.loc
  · unfold At.nf at hm; dsimp only at hm; split at hm <;> cases hm; exact ⟨h.makerAS, h.maker⟩
  · obtain ⟨t, ht, rfl⟩ := List.mem_map.1 hs
    exact (h.path t ht).2 z hz
  · obtain ⟨t, ht, rfl⟩ := List.mem_map.1 ho
    exact (h.others t ht).2.2 z hz
theorem num4_inj {n m : Int} (hn : U32 n) (hm : U32 m) (h : num4 n = num4 m) : n = m := by
  obtain ⟨_, _⟩ := hn
  obtain ⟨_, _⟩ := hm
  simp only [num4, List.cons.injEq] at h
  omega
theorem asB_inj : ∀ {l m : List Int}, (∀ z ∈ l, U32 z) → (∀ z ∈ m, U32 z) → asB l = asB m → l = m
  | [], [], _, _, _ => rfl
  | [], y :: m, _, _, h => by
    have := congrArg List.length h
    rw [asB_len, asB_len] at this
    simp at this
  | x :: l, [], _, _, h => by
    have := congrArg List.length h
    rw [asB_len, asB_len] at this
    simp at this
  | x :: l, y :: m, h1, h2, h => by
    have e : num4 x ++ asB l = num4 y ++ asB m := h
    obtain ⟨e1, e2⟩ := List.append_inj e rfl
    rw [num4_inj (h1 x (List.mem_cons_self ..)) (h2 y (List.mem_cons_self ..)) e1, asB_inj (fun z hz => h1 z (List.mem_cons_of_mem _ hz)) (fun z hz => h2 z (List.mem_cons_of_mem _ hz)) e2]
theorem kd_inj {a b : Bool} (h : kd a = kd b) : a = b := by
  cases a <;> cases b <;> first | rfl | (exact absurd h (by decide))
theorem pB_inj : ∀ {p q : List (Bool × List Int)}, (∀ s ∈ p, ∀ z ∈ s.2, U32 z) → (∀ s ∈ q, ∀ z ∈ s.2, U32 z) → pB p = pB q → p = q
  | [], [], _, _, _ => rfl
  | [], t :: q, _, _, h => by
    have := congrArg List.length h
    rw [pB_len, pB_len] at this
    simp only [tot, List.length_cons, List.length_nil] at this
    omega
  | s :: p, [], _, _, h => by
    have := congrArg List.length h
    rw [pB_len, pB_len] at this
    simp [tot] at this
  | s :: p, t :: q, h1, h2, h => by
    have e : kd s.1 :: (s.2.length : Int) :: (asB s.2 ++ pB p) = kd t.1 :: (t.2.length : Int) :: (asB t.2 ++ pB q) := h
    simp only [List.cons.injEq] at e
    obtain ⟨e1, e2, e3⟩ := e
    obtain ⟨e4, e5⟩ := List.append_inj e3 (by rw [asB_len, asB_len]; omega)
    have e6 := asB_inj (h1 s (List.mem_cons_self ..)) (h2 t (List.mem_cons_self ..)) e4
    rw [pB_inj (fun z hz => h1 z (List.mem_cons_of_mem _ hz)) (fun z hz => h2 z (List.mem_cons_of_mem _ hz)) e5]
    congr 1
    exact Prod.ext (kd_inj e1) e6
/-- What may be put. -/
structure VT (t : Tl) : Prop where
  f : t.1 = 64 ∨ t.1 = 128 ∨ t.1 = 192 ∨ t.1 = 224
  k : 0 ≤ t.2.1 ∧ t.2.1 ≤ 255
  n : t.2.2.length ≤ 65535
  d : ∀ z ∈ t.2.2, U8 z
theorem orF_v : orF 64 = 80 ∧ orF 128 = 144 ∧ orF 192 = 208 ∧ orF 224 = 240 := by decide
theorem VT.or {t : Tl} (h : VT t) : orF t.1 = t.1 + 16 := by
  obtain ⟨h1, h2, h3, h4⟩ := orF_v
  rcases h.f with e | e | e | e <;> rw [e] <;> assumption
theorem tlB_inj {t u : Tl} {r r' : List Int} (ht : VT t) (hu : VT u) (h : tlB t ++ r = tlB u ++ r') : t = u ∧ r = r' := by
  obtain ⟨f, k, d⟩ := t
  obtain ⟨f', k', d'⟩ := u
  have hn := ht.n
  have hn' := hu.n
  have hf := ht.f
  have hf' := hu.f
  have ho := ht.or
  have ho' := hu.or
  dsimp only at hn hn' hf hf' ho ho'
  unfold tlB putB at h
  dsimp only at h
  rw [ho, ho'] at h
  split at h <;> split at h
  · simp only [List.cons_append, List.nil_append, List.cons.injEq] at h
    obtain ⟨e1, e2, e3, e4, e5⟩ := h
    obtain ⟨e6, e7⟩ := List.append_inj e5 (by omega)
    refine ⟨?_, e7⟩
    rw [show f = f' by omega, e2, e6]
  · simp only [List.cons_append, List.nil_append, List.cons.injEq] at h
    omega
  · simp only [List.cons_append, List.nil_append, List.cons.injEq] at h
    omega
  · simp only [List.cons_append, List.nil_append, List.cons.injEq] at h
    obtain ⟨e1, e2, e3, e5⟩ := h
    obtain ⟨e6, e7⟩ := List.append_inj e5 (by omega)
    refine ⟨?_, e7⟩
    rw [e1, e2, e6]
theorem tlB_ne (t : Tl) : 0 < (tlB t).length := by
  unfold tlB putB
  split <;> simp
theorem tls_inj : ∀ {l m : List Tl}, (∀ t ∈ l, VT t) → (∀ t ∈ m, VT t) → tlsB l = tlsB m → l = m
  | [], [], _, _, _ => rfl
  | [], u :: m, _, _, h => by
    have e : [] = tlB u ++ tlsB m := h
    have h1 := congrArg List.length e
    have h2 := tlB_ne u
    rw [List.length_append, List.length_nil] at h1
    omega
  | t :: l, [], _, _, h => by
    have e : tlB t ++ tlsB l = [] := h
    have h1 := congrArg List.length e
    have h2 := tlB_ne t
    rw [List.length_append, List.length_nil] at h1
    omega
  | t :: l, u :: m, h1, h2, h => by
    have e : tlB t ++ tlsB l = tlB u ++ tlsB m := h
    obtain ⟨e1, e2⟩ := tlB_inj (h1 t (List.mem_cons_self ..)) (h2 u (List.mem_cons_self ..)) e
    rw [e1, tls_inj (fun z hz => h1 z (List.mem_cons_of_mem _ hz)) (fun z hz => h2 z (List.mem_cons_of_mem _ hz)) e2]
theorem num4_u8 {n : Int} (h : U32 n) : ∀ z ∈ num4 n, U8 z := by
  obtain ⟨_, _⟩ := h
  intro z hz
  simp only [num4, List.mem_cons, List.not_mem_nil, or_false] at hz
  unfold U8
  omega
theorem asB_u8 {l : List Int} (h : ∀ z ∈ l, U32 z) : ∀ z ∈ asB l, U8 z := by
  intro z hz
  obtain ⟨x, hx, hz⟩ := List.mem_flatMap.1 hz
  exact num4_u8 (h x hx) z hz
theorem pB_u8 {p : List (Bool × List Int)} (hp : ∀ s ∈ p, okS s = true) (h : ∀ s ∈ p, ∀ z ∈ s.2, U32 z) : ∀ z ∈ pB p, U8 z := by
  intro z hz
  obtain ⟨s, hs, hz⟩ := List.mem_flatMap.1 hz
  have h1 := hp s hs
  unfold okS at h1
  have h1 := of_decide_eq_true h1
  unfold segB at hz
  rcases List.mem_cons.1 hz with rfl | hz
  · unfold kd U8
    split <;> omega
  · rcases List.mem_cons.1 hz with rfl | hz
    · unfold U8
      omega
    · exact asB_u8 (h s hs) z hz
open Classical in
theorem okN_of {x : Nf} (h : okN x = true) : OkN x := by
  unfold okN at h
  exact of_decide_eq_true h
theorem midT_f {x : Nf} : ∀ t ∈ medT x ++ atomT x ++ makT x ++ comT x, t.1 = 64 ∨ t.1 = 128 ∨ t.1 = 192 := by
  intro t ht
  simp only [List.mem_append] at ht
  rcases ht with ((ht | ht) | ht) | ht
  · unfold medT at ht; split at ht <;> simp at ht; subst ht; simp
  · unfold atomT at ht; split at ht <;> simp at ht; subst ht; simp
  · unfold makT at ht; split at ht <;> simp at ht; subst ht; simp
  · unfold comT at ht; split at ht <;> simp at ht; subst ht; simp
theorem attrT_vt {x : Nf} (hn : NfN x) (ho : OkN x) : ∀ t ∈ attrT x, VT t := by
  obtain ⟨hos, h64⟩ := (ckP_iff x.path 0 (by omega)).1 ho.path
  intro t ht
  unfold attrT at ht
  rcases List.mem_append.1 ht with ht | ht
  · rcases List.mem_append.1 ht with ht | ht
    · simp only [List.mem_cons, List.not_mem_nil, or_false] at ht
      rcases ht with rfl | rfl | rfl
      · refine ⟨.inl rfl, ⟨by simp, by simp⟩, by simp, ?_⟩
        intro z hz
        obtain rfl := List.mem_singleton.1 hz
        have := ho.origin
        unfold U8
        omega
      · refine ⟨.inl rfl, ⟨by simp, by simp⟩, ?_, pB_u8 hos hn.path⟩
        have h1 := pB_len x.path
        have h2 : x.path.length ≤ tot x.path := by
          have : ∀ (p : List (Bool × List Int)), (∀ s ∈ p, okS s = true) → p.length ≤ tot p := by
            intro p
            induction p with
            | nil => intro _; exact Nat.zero_le _
            | cons s p ih =>
              intro h
              have h3 := ih (fun s hs => h s (List.mem_cons_of_mem _ hs))
              have h4 := h s (List.mem_cons_self ..)
              unfold okS at h4
              have h4 := of_decide_eq_true h4
              simp only [List.length_cons, tot]
              omega
          exact this _ hos
        show (pB x.path).length ≤ 65535
        omega
      · exact ⟨.inl rfl, ⟨by simp, by simp⟩, by simp [num4], num4_u8 hn.next⟩
    · simp only [List.mem_append] at ht
      rcases ht with ((ht | ht) | ht) | ht
      · unfold medT at ht
        split at ht
        · simp at ht
        · rename_i m hm
          obtain rfl := List.mem_singleton.1 ht
          exact ⟨by simp, by simp, by simp [num4], num4_u8 (hn.med m hm)⟩
      · unfold atomT at ht
        split at ht
        · obtain rfl := List.mem_singleton.1 ht
          exact ⟨by simp, by simp, by simp, by simp⟩
        · simp at ht
      · unfold makT at ht
        split at ht
        · simp at ht
        · rename_i m hm
          obtain rfl := List.mem_singleton.1 ht
          refine ⟨by simp, by simp, by simp [num4], fun z hz => ?_⟩
          rcases List.mem_append.1 hz with hz | hz
          · exact num4_u8 (hn.maker m hm).1 z hz
          · exact num4_u8 (hn.maker m hm).2 z hz
      · unfold comT at ht
        split at ht
        · simp at ht
        · obtain rfl := List.mem_singleton.1 ht
          refine ⟨by simp, by simp, ?_, asB_u8 hn.comms⟩
          have := ho.comms
          show (asB x.comms).length ≤ 65535
          rw [asB_len]
          omega
  · obtain ⟨o, ho2, rfl⟩ := List.mem_map.1 ht
    have := ckO_all _ _ ho.others.2 o ho2
    exact ⟨by simp [oT], ⟨by show 0 ≤ o.1; omega, by show o.1 ≤ 255; omega⟩, by show o.2.length ≤ 65535; omega, hn.others o ho2⟩
def isK (k : Int) (t : Tl) : Bool := decide (t.2.1 = k)
theorem mid_k4 (x : Nf) : (medT x ++ atomT x ++ makT x ++ comT x).filter (isK 4) = medT x := by
  unfold medT atomT makT comT isK
  split <;> split <;> split <;> split <;> simp
theorem mid_k6 (x : Nf) : (medT x ++ atomT x ++ makT x ++ comT x).filter (isK 6) = atomT x := by
  unfold medT atomT makT comT isK
  split <;> split <;> split <;> split <;> simp
theorem mid_k7 (x : Nf) : (medT x ++ atomT x ++ makT x ++ comT x).filter (isK 7) = makT x := by
  unfold medT atomT makT comT isK
  split <;> split <;> split <;> split <;> simp
theorem mid_k8 (x : Nf) : (medT x ++ atomT x ++ makT x ++ comT x).filter (isK 8) = comT x := by
  unfold medT atomT makT comT isK
  split <;> split <;> split <;> split <;> simp
theorem app_split {P : Tl → Prop} : ∀ {a b c d : List Tl}, (∀ t ∈ a, P t) → (∀ t ∈ c, P t) → (∀ t ∈ b, ¬ P t) → (∀ t ∈ d, ¬ P t) → a ++ b = c ++ d → a = c ∧ b = d
  | [], b, [], d, _, _, _, _, h => ⟨rfl, h⟩
  | [], b, z :: c, d, _, h2, h3, _, h => by
    have : z ∈ b := by
      have e : b = z :: (c ++ d) := h
      rw [e]; exact List.mem_cons_self ..
    exact absurd (h2 z (List.mem_cons_self ..)) (h3 z this)
  | z :: a, b, [], d, h1, _, _, h4, h => by
    have : z ∈ d := by
      have e : z :: (a ++ b) = d := h
      rw [← e]; exact List.mem_cons_self ..
    exact absurd (h1 z (List.mem_cons_self ..)) (h4 z this)
  | z :: a, b, y :: c, d, h1, h2, h3, h4, h => by
    have e : z :: (a ++ b) = y :: (c ++ d) := h
    simp only [List.cons.injEq] at e
    obtain ⟨e1, e2⟩ := app_split (fun t ht => h1 t (List.mem_cons_of_mem _ ht)) (fun t ht => h2 t (List.mem_cons_of_mem _ ht)) h3 h4 e.2
    rw [e.1, e1, e2]
    exact ⟨rfl, rfl⟩
theorem oT_inj : ∀ {l m : List (Int × List Int)}, l.map oT = m.map oT → l = m
  | [], [], _ => rfl
  | [], _ :: _, h => by simp at h
  | _ :: _, [], h => by simp at h
  | x :: l, y :: m, h => by
    simp only [List.map_cons, List.cons.injEq, oT, Prod.mk.injEq] at h
    rw [oT_inj (l := l) (m := m) h.2]
    congr 1
    exact Prod.ext h.1.2.1 h.1.2.2
theorem attr_inj {x y : Nf} (hx : NfN x) (hy : NfN y) (hl : x.loc = y.loc) (h : attrT x = attrT y) : x = y := by
  have h : ((64 : Int), (1 : Int), [x.origin]) :: (64, 2, pB x.path) :: (64, 3, num4 x.next) :: ((medT x ++ atomT x ++ makT x ++ comT x) ++ x.others.map oT) = (64, 1, [y.origin]) :: (64, 2, pB y.path) :: (64, 3, num4 y.next) :: ((medT y ++ atomT y ++ makT y ++ comT y) ++ y.others.map oT) := h
  simp only [List.cons_append, List.nil_append, List.cons.injEq, Prod.mk.injEq, true_and] at h
  obtain ⟨⟨e1, _⟩, e2, e3, e4⟩ := h
  have e2 := pB_inj hx.path hy.path e2
  have e3 := num4_inj hx.next hy.next e3
  obtain ⟨e5, e6⟩ := app_split (P := fun t => t.1 ≠ 224) (fun t ht => by rcases midT_f t ht with h | h | h <;> rw [h] <;> decide) (fun t ht => by rcases midT_f t ht with h | h | h <;> rw [h] <;> decide) (fun t ht => by obtain ⟨o, _, rfl⟩ := List.mem_map.1 ht; simp [oT]) (fun t ht => by obtain ⟨o, _, rfl⟩ := List.mem_map.1 ht; simp [oT]) e4
  have e6 := oT_inj e6
  have m4 := congrArg (List.filter (isK 4)) e5
  have m6 := congrArg (List.filter (isK 6)) e5
  have m7 := congrArg (List.filter (isK 7)) e5
  have m8 := congrArg (List.filter (isK 8)) e5
  rw [mid_k4, mid_k4] at m4
  rw [mid_k6, mid_k6] at m6
  rw [mid_k7, mid_k7] at m7
  rw [mid_k8, mid_k8] at m8
  have f4 : x.med = y.med := by
    unfold medT at m4
    have h1 := hx.med
    have h2 := hy.med
    rcases a : x.med with _ | a1 <;> rcases b : y.med with _ | b1 <;> rw [a, b] at m4
    · simp at m4
    · simp at m4
    · simp only [List.cons.injEq, Prod.mk.injEq, true_and, and_true] at m4
      rw [num4_inj (h1 _ a) (h2 _ b) m4]
  have f6 : x.atomic = y.atomic := by
    unfold atomT at m6
    rcases a : x.atomic <;> rcases b : y.atomic <;> rw [a, b] at m6 <;> simp at m6 ⊢
  have f7 : x.maker = y.maker := by
    unfold makT at m7
    have h1 := hx.maker
    have h2 := hy.maker
    rcases a : x.maker with _ | a1 <;> rcases b : y.maker with _ | b1 <;> rw [a, b] at m7
    · simp at m7
    · simp at m7
    · simp only [List.cons.injEq, Prod.mk.injEq, true_and, and_true] at m7
      obtain ⟨g1, g2⟩ := List.append_inj m7 rfl
      congr 1
      exact Prod.ext (num4_inj (h1 _ a).1 (h2 _ b).1 g1) (num4_inj (h1 _ a).2 (h2 _ b).2 g2)
  have f8 : x.comms = y.comms := by
    unfold comT at m8
    split at m8 <;> split at m8
    · rw [List.eq_nil_of_length_eq_zero (by assumption : x.comms.length = 0), List.eq_nil_of_length_eq_zero (by assumption : y.comms.length = 0)]
    · simp at m8
    · simp at m8
    · simp only [List.cons.injEq, Prod.mk.injEq, true_and, and_true] at m8
      exact asB_inj hx.comms hy.comms m8
  obtain ⟨a1, a2, a3, a4, a5, a6, a7, a8, a9⟩ := x
  obtain ⟨b1, b2, b3, b4, b5, b6, b7, b8, b9⟩ := y
  simp_all
theorem locB_u8 {x : Nf} (h : NfN x) : ∀ z ∈ locB x, U8 z := by
  intro z hz
  unfold locB at hz
  split at hz
  · obtain rfl := List.mem_singleton.1 hz
    unfold U8; omega
  · rename_i n hn
    rcases List.mem_append.1 hz with hz | hz
    · exact num4_u8 (h.loc n hn) z hz
    · obtain rfl := List.mem_singleton.1 hz
      unfold U8; omega
theorem tlB_u8 {t : Tl} (h : VT t) : ∀ z ∈ tlB t, U8 z := by
  intro z hz
  unfold tlB putB at hz
  have hf := h.f
  have ho := h.or
  have hk := h.k
  have hn := h.n
  rcases List.mem_append.1 hz with hz | hz
  · split at hz
    · simp only [List.mem_cons, List.not_mem_nil, or_false] at hz
      rw [ho] at hz
      unfold U8
      omega
    · simp only [List.mem_cons, List.not_mem_nil, or_false] at hz
      unfold U8
      omega
  · exact h.d z hz
theorem keyB_u8 {x : Nf} (hn : NfN x) (ho : okN x = true) : ∀ z ∈ keyB x, U8 z := by
  intro z hz
  unfold keyB at hz
  rcases List.mem_append.1 hz with hz | hz
  · obtain ⟨t, ht, hz⟩ := List.mem_flatMap.1 hz
    exact tlB_u8 (attrT_vt hn (okN_of ho) t ht) z hz
  · exact locB_u8 hn z hz
theorem key_inj {x y : Nf} (hx : NfN x) (hy : NfN y) (ox : okN x = true) (oy : okN y = true) (h : keyB x = keyB y) : x = y := by
  unfold keyB at h
  have hl : x.loc = y.loc ∧ attrB x = attrB y := by
    have g := congrArg List.getLast? h
    have h1 := hx.loc
    have h2 := hy.loc
    unfold locB at h g
    rcases a : x.loc with _ | a1 <;> rcases b : y.loc with _ | b1 <;> rw [a, b] at h g
    · exact ⟨rfl, (List.append_inj' h rfl).1⟩
    · rw [← List.append_assoc, List.getLast?_concat, List.getLast?_concat] at g
      simp at g
    · rw [← List.append_assoc, List.getLast?_concat, List.getLast?_concat] at g
      simp at g
    · obtain ⟨g1, g2⟩ := List.append_inj' h rfl
      obtain ⟨g3, _⟩ := List.append_inj g2 rfl
      exact ⟨by rw [num4_inj (h1 _ a) (h2 _ b) g3], g1⟩
  exact attr_inj hx hy hl.1 (tls_inj (attrT_vt hx (okN_of ox)) (attrT_vt hy (okN_of oy)) hl.2)
def keyS (x : Nf) : ByteArray := strOfNums (keyB x)
theorem keyS_inj {x y : Nf} (hx : NfN x) (hy : NfN y) (ox : okN x = true) (oy : okN y = true) (h : keyS x = keyS y) : x = y :=
  key_inj hx hy ox oy (strOf_inj (keyB_u8 hx ox) (keyB_u8 hy oy) h)
end Go.Proofs.YtnhabkipjmgaaaaGreat
namespace Go.Proofs.YtnhabkipjmgaaaaGreat
set_option linter.unusedSimpArgs false
set_option linter.unusedVariables false
set_option maxRecDepth 20000
set_option maxHeartbeats 4000000
open Go.RowKit Go.Pm

/-- What is kept: by a number, so often. -/
structure En where
  id : Int
  n : Int
  x : Nf
/-- The same in memory. -/
structure Me where
  b : Nat
  d : At
  e : En
abbrev enC (d : At) (k : ByteArray) (n : Int) : List Value := [.int .i64 d.origin, .slice d.pa d.path.length d.pc, .int .u32 d.next, .bool d.hasMed, .int .u32 d.med, .bool d.hasLocal, .int .u32 d.loc, .bool d.atomic, .bool d.hasMaker, .int .u32 d.makerAS, .int .u32 d.maker, .slice d.ca d.comms.length d.cc, .slice d.oa d.others.length d.oc, .string k, .int .i64 n]
def meP (m : Me) : HP := sats [pts m.b (enC m.d (keyS m.e.x) m.e.n) 114, has (fun w => AtV w m.d)]
theorem meOpen {W : World} {K : Hl} {L R : List HP} {w : World} {m : Me} (H : Ow W K L w) (t : Tk L (meP m) R) : Ow W K (pts m.b (enC m.d (keyS m.e.x) m.e.n) 114 :: has (fun w => AtV w m.d) :: R) w := H.flat t
theorem meShut {W : World} {K : Hl} {L R : List HP} {w : World} {m : Me} (H : Ow W K L w) (t : Sb L [pts m.b (enC m.d (keyS m.e.x) m.e.n) 114, has (fun w => AtV w m.d)] R) : Ow W K (meP m :: R) w := H.unflat t
def byL (M : List Me) : List (ByteArray × Value) := M.map fun m => (keyS m.e.x, Value.int .i64 m.e.id)
def idL (M : List Me) : List (Int × Value) := M.map fun m => (m.e.id, Value.pointer (some ⟨m.b, 0, none⟩))
abbrev stC (mb lb : Nat) (c : Int) : List Value := [.map (some mb), .map (some lb), .int .i64 c]
abbrev mqS := mq Value.string
abbrev mqI := mq (Value.int .i64)
structure MOk (M : List Me) (S : List En) : Prop where
  e : M.map (·.e) = S
  d : ∀ m ∈ M, AtF m.d ∧ m.d.nf = m.e.x
def stoA (sp : Nat) (S : List En) (c : Int) : HP := fun h => ∃ (mb lb : Nat) (M : List Me), MOk M S ∧ sats [pts sp (stC mb lb c) 76, mqS mb (byL M), mqI lb (idL M), sats (M.map meP)] h
structure Mx where
  mb : Nat
  lb : Nat
  M : List Me
theorem stoOpen {W : World} {K : Hl} {L R : List HP} {w : World} {sp : Nat} {S : List En} {c : Int} (H : Ow W K L w) (t : Tk L (stoA sp S c) R) : ∃ x : {x : Mx // MOk x.M S}, Ow W K (pts sp (stC x.1.mb x.1.lb c) 76 :: mqS x.1.mb (byL x.1.M) :: mqI x.1.lb (idL x.1.M) :: sats (x.1.M.map meP) :: R) w :=
  H.open t (Bs := fun x : {x : Mx // MOk x.M S} => [pts sp (stC x.1.mb x.1.lb c) 76, mqS x.1.mb (byL x.1.M), mqI x.1.lb (idL x.1.M), sats (x.1.M.map meP)]) (fun k ⟨mb, lb, M, hM, h⟩ => ⟨⟨⟨mb, lb, M⟩, hM⟩, h⟩)
theorem stoShut {W : World} {K : Hl} {L R : List HP} {w : World} {sp mb lb : Nat} {M : List Me} {S : List En} {c : Int} (hM : MOk M S) (H : Ow W K L w) (t : Sb L [pts sp (stC mb lb c) 76, mqS mb (byL M), mqI lb (idL M), sats (M.map meP)] R) : Ow W K (stoA sp S c :: R) w :=
  H.shut t (fun k hk => ⟨mb, lb, M, hM, hk⟩)
theorem mi_s : MI Tryz.prog 73 Value.string (.int .i64 0) := mi_of Tryz.underlying73 (keyOkS Tryz.underlying9) (by kernel_rfl)
theorem mi_i : MI Tryz.prog 74 (Value.int .i64) (.pointer none) := mi_of Tryz.underlying74 (keyOkI Tryz.underlying3) (by kernel_rfl)
theorem is_s (sp : Nat) (lb : Nat) (x : Value) (c : Int) : Pact Tryz.prog 62 #[.pointer (some ⟨sp, 0, none⟩)] (fun _ => True) [pts sp [x, .map (some lb), .int .i64 c] 76] (fun u L' => u = .bool true ∧ L' = [pts sp [x, .map (some lb), .int .i64 c] 76]) := by
  refine pact Tryz.func62 rfl Tryz.ntmps62 rfl ?_
  intro W K _
  (repeat' (first | ((with_reducible apply gL); (first | refine yL0 ?_ | ((with_reducible apply gL_bin_neq); (first | (refine JL_p rfl xR xR (pe_neM xR xR xC) ?_) | fail)) | refine yL ?_ | ((with_reducible apply gL_gd); (first | (refine JL_guard xR xR ?_ ?_ <;> intro _ <;> (try (exfalso; first | contradiction | omega))) | (refine JL_guardb xR xR ?_ ?_ <;> (intro hgb; subst hgb)) | (refine JL_guardb xR xR ?_ ?_ <;> (intro hgb; fail_if_success (have : type_of% hgb := rfl))) | fail)) | fail)) | refine yJ ?_ | fail))
  exact J_ret1 rfl (by rfl) fun w H => ⟨_, ⟨rfl, rfl⟩, H.sel xZ⟩
theorem find_hit (sp mb lb : Nat) (c id : Int) (A B : List Me) (m : Me) (hid : m.e.id = id) (hA : ∀ a ∈ A, a.e.id ≠ id) : Pact Tryz.prog 61 #[.pointer (some ⟨sp, 0, none⟩), .int .i64 id] (fun _ => True) [pts sp (stC mb lb c) 76, mqI lb (idL (A ++ m :: B))] (fun u L' => u = .tuple #[.pointer (some ⟨m.b, 0, none⟩), .int .i64 0] ∧ L' = [pts sp (stC mb lb c) 76, mqI lb (idL (A ++ m :: B))]) := by
  refine pact Tryz.func61 rfl Tryz.ntmps61 rfl ?_
  intro W K _
  have hg : lookV (aG (idL (A ++ m :: B)) id) (.pointer none) false = .pointer (some ⟨m.b, 0, none⟩) := by
    unfold idL
    rw [List.map_append, List.map_cons, hid, aG_mid]
    · rfl
    · intro p hp
      obtain ⟨a, ha, rfl⟩ := List.mem_map.1 hp
      exact hA a ha
  (repeat' (first | ((with_reducible apply gL); (first | refine yL0 ?_ | ((with_reducible apply gL_lookup); (first | (refine JL_p rfl xR xR (pe_lookG mi_i xR xR xA hg) ?_) | fail)) | refine yL ?_ | ((with_reducible apply gL_go); (first | (refine JL_goq (is_s sp lb (.map (some mb)) c) (hφ := xF) (h := ?_); rintro _ _ ⟨rfl, rfl⟩; try simp only [List.cons_append, List.nil_append]) | fail)) | ((with_reducible apply gL_lookup); (first | refine JL_p rfl xR xR (pe_lookup xR xR (tabM mtab_ok xR) xT (by first | apply hlook | apply hlook2 | rfl)) ?_ | refine JL_p rfl xR xR (pe_lookupK xR xR (tabM mtab_ok xR) xH (by first | apply hlook | apply hlook2 | rfl)) ?_ | fail)) | fail)) | refine yJ ?_ | ((with_reducible apply gJ_if); (first | (refine J_if xR ?_ ?_ <;> intro _ <;> (try (exfalso; first | contradiction | omega))) | (refine J_ifb xR ?_ ?_ <;> (intro hgb; subst hgb)) | (refine J_ifb xR ?_ ?_ <;> intro _) | fail)) | fail))
  exact J_ret2 rfl (by rfl) (by rfl) fun w H => ⟨_, ⟨rfl, rfl⟩, H.sel xZ⟩
theorem find_miss (sp mb lb : Nat) (c id : Int) (M : List Me) (hA : ∀ a ∈ M, a.e.id ≠ id) : Pact Tryz.prog 61 #[.pointer (some ⟨sp, 0, none⟩), .int .i64 id] (fun _ => True) [pts sp (stC mb lb c) 76, mqI lb (idL M)] (fun u L' => u = .tuple #[.pointer none, .int .i64 5] ∧ L' = [pts sp (stC mb lb c) 76, mqI lb (idL M)]) := by
  refine pact Tryz.func61 rfl Tryz.ntmps61 rfl ?_
  intro W K _
  have hg : lookV (aG (idL M) id) (.pointer none) false = .pointer none := by
    unfold idL
    rw [aG_none]
    · rfl
    · intro p hp
      obtain ⟨a, ha, rfl⟩ := List.mem_map.1 hp
      exact hA a ha
  (repeat' (first | ((with_reducible apply gL); (first | refine yL0 ?_ | ((with_reducible apply gL_lookup); (first | (refine JL_p rfl xR xR (pe_lookG mi_i xR xR xA hg) ?_) | fail)) | refine yL ?_ | ((with_reducible apply gL_go); (first | (refine JL_goq (is_s sp lb (.map (some mb)) c) (hφ := xF) (h := ?_); rintro _ _ ⟨rfl, rfl⟩; try simp only [List.cons_append, List.nil_append]) | fail)) | ((with_reducible apply gL_lookup); (first | refine JL_p rfl xR xR (pe_lookup xR xR (tabM mtab_ok xR) xT (by first | apply hlook | apply hlook2 | rfl)) ?_ | refine JL_p rfl xR xR (pe_lookupK xR xR (tabM mtab_ok xR) xH (by first | apply hlook | apply hlook2 | rfl)) ?_ | fail)) | fail)) | refine yJ ?_ | ((with_reducible apply gJ_if); (first | (refine J_if xR ?_ ?_ <;> intro _ <;> (try (exfalso; first | contradiction | omega))) | (refine J_ifb xR ?_ ?_ <;> (intro hgb; subst hgb)) | (refine J_ifb xR ?_ ?_ <;> intro _) | fail)) | fail))
  exact J_ret2 rfl (by rfl) (by rfl) fun w H => ⟨_, ⟨rfl, rfl⟩, H.sel xZ⟩
theorem new_s : Pact Tryz.prog 11 #[] (fun _ => True) [] (fun u L' => ∃ sp, u = .pointer (some ⟨sp, 0, none⟩) ∧ L' = [stoA sp [] 0]) := by
  refine pact (args := []) Tryz.func11 rfl Tryz.ntmps11 rfl ?_
  intro W K _
  (repeat' (first | ((with_reducible apply gL); (first | refine yL0 ?_ | ((with_reducible apply gL_makeMap); (first | (first | (refine JL_mmG (t := 73) Value.string xR xR ?_; intro mb) | (refine JL_mmG (t := 74) (Value.int .i64) xR xR ?_; intro lb)) | fail)) | refine yL ?_ | (refine yM ?_; intro _) | ((with_reducible apply gL_makeMap); (first | (refine JL_mm (tabM mtab_ok xR) xR xR ?_; intro _) | fail)) | fail)) | refine yJ ?_ | fail))
  rename_i sp
  refine J_ret1 rfl (by rfl) fun w H => ⟨_, ⟨sp, rfl, rfl⟩, ?_⟩
  exact Ow.sel (stoShut (M := []) ⟨rfl, fun _ h => absurd h List.not_mem_nil⟩ (Ow.satsNil H) (mb := mb) (lb := lb) xZ) xZ
end Go.Proofs.YtnhabkipjmgaaaaGreat
namespace Go.Proofs.YtnhabkipjmgaaaaGreat
set_option linter.unusedSimpArgs false
set_option linter.unusedVariables false
set_option maxRecDepth 20000
set_option maxHeartbeats 4000000
open Go.RowKit Go.Pm

/-- A store as it may be: no number twice, nothing twice, all that is kept right. -/
structure StOk (B : Int) (S : List En) (c : Int) : Prop where
  cnt : 0 ≤ c ∧ c ≤ B
  ids : ∀ e ∈ S, 1 ≤ e.id ∧ e.id ≤ c
  n : ∀ e ∈ S, 1 ≤ e.n ∧ e.n ≤ B
  ok : ∀ e ∈ S, okN e.x = true ∧ NfN e.x
  idd : S.Pairwise (fun a b => a.id ≠ b.id)
  xd : S.Pairwise (fun a b => a.x ≠ b.x)
  len : S.length ≤ 4096
theorem StOk.mono {B B' : Int} {S : List En} {c : Int} (h : StOk B S c) (hb : B ≤ B') : StOk B' S c :=
  ⟨⟨h.cnt.1, by have := h.cnt.2; omega⟩, h.ids, fun e he => ⟨(h.n e he).1, by have := (h.n e he).2; omega⟩, h.ok, h.idd, h.xd, h.len⟩
theorem stok_nil : StOk 0 [] 0 := ⟨by omega, by simp, by simp, by simp, .nil, .nil, by simp⟩
/-- What stands in the middle differs from what stands around it. -/
theorem StOk.mid {B : Int} {A C : List En} {e : En} {c : Int} (h : StOk B (A ++ e :: C) c) : (∀ a ∈ A, a.id ≠ e.id ∧ a.x ≠ e.x) ∧ (∀ a ∈ C, a.id ≠ e.id ∧ a.x ≠ e.x) := by
  have h1 := List.pairwise_append.1 h.idd
  have h2 := List.pairwise_append.1 h.xd
  have h3 := List.pairwise_cons.1 h1.2.1
  have h4 := List.pairwise_cons.1 h2.2.1
  exact ⟨fun a ha => ⟨h1.2.2 a ha e (List.mem_cons_self ..), h2.2.2 a ha e (List.mem_cons_self ..)⟩, fun a ha => ⟨fun q => h3.1 a ha q.symm, fun q => h4.1 a ha q.symm⟩⟩
theorem MOk.split {M : List Me} {A C : List En} {e : En} (h : MOk M (A ++ e :: C)) : ∃ MA m MC, M = MA ++ m :: MC ∧ m.e = e ∧ MOk MA A ∧ MOk MC C ∧ AtF m.d ∧ m.d.nf = e.x := by
  obtain ⟨MA, M2, rfl, h1, h2⟩ := List.map_eq_append_iff.1 h.e
  obtain ⟨m, MC, rfl, h3, h4⟩ := List.map_eq_cons_iff.1 h2
  have hd := h.d m (by simp)
  exact ⟨MA, m, MC, rfl, h3, ⟨h1, fun a ha => h.d a (by simp [ha])⟩, ⟨h4, fun a ha => h.d a (by simp [ha])⟩, hd.1, by rw [hd.2, h3]⟩
theorem MOk.join {MA MC : List Me} {m : Me} {A C : List En} (h1 : MOk MA A) (h2 : MOk MC C) (h3 : AtF m.d) (h4 : m.d.nf = m.e.x) : MOk (MA ++ m :: MC) (A ++ m.e :: C) := by
  refine ⟨by rw [List.map_append, List.map_cons, h1.e, h2.e], fun a ha => ?_⟩
  rcases List.mem_append.1 ha with ha | ha
  · exact h1.d a ha
  · rcases List.mem_cons.1 ha with rfl | ha
    · exact ⟨h3, h4⟩
    · exact h2.d a ha
theorem MOk.two {MA MC : List Me} {A C : List En} (h1 : MOk MA A) (h2 : MOk MC C) : MOk (MA ++ MC) (A ++ C) := by
  refine ⟨by rw [List.map_append, h1.e, h2.e], fun a ha => ?_⟩
  rcases List.mem_append.1 ha with ha | ha
  · exact h1.d a ha
  · exact h2.d a ha
theorem MOk.mem {M : List Me} {S : List En} (h : MOk M S) {a : Me} (ha : a ∈ M) : a.e ∈ S := by rw [← h.e]; exact List.mem_map.2 ⟨a, ha, rfl⟩
theorem keyOk_s (d : At) (hd : AtF d) (hok : okN d.nf = true) : Pact Tryz.prog 72 #[.agg (atC d).toArray] (fun w => AtV w d) [] (ret0 (.tuple #[.string (keyS d.nf), .int .i64 0])) := fun W K w hK H =>
  (keyOf_s d hd W K w hK H).mono fun e w' ⟨v, L', h2, h1, h3⟩ => by
    obtain ⟨k, rfl, hk, rfl⟩ := h2
    exact ⟨_, [], ⟨by rw [hk hok, hok]; rfl, rfl⟩, h1, h3⟩
theorem keep_bad (sp : Nat) (S : List En) (c : Int) (d : At) (hd : AtF d) (hok : okN d.nf = false) : Pact Tryz.prog 39 #[.pointer (some ⟨sp, 0, none⟩), .agg (atC d).toArray] (fun w => AtV w d) [stoA sp S c] (fun u L' => u = .tuple #[.int .i64 0, .int .i64 2] ∧ L' = [stoA sp S c]) := by
  refine pact Tryz.func39 rfl Tryz.ntmps39 rfl ?_
  intro W K hK
  refine J_open (fun w H => stoOpen H .here) ?_
  rintro ⟨⟨mb, lb, M⟩, hM⟩
  dsimp only
  have hk := keyOf_s d hd
  rw [hok] at hk
  (repeat' (first | ((with_reducible apply gL); (first | refine yL0 ?_ | refine yL ?_ | ((with_reducible apply gL_go); (first | (refine JL_goq (is_s sp lb (.map (some mb)) c) (hφ := xF) (h := ?_); rintro _ _ ⟨rfl, rfl⟩; try simp only [List.cons_append, List.nil_append]) | (refine JL_goq (hk) (hφ := (by (try simp only [List.cons_append, List.nil_append]); exact fun w hr => hK w hr.1)) (h := ?_); rintro _ _ ⟨k, rfl, _, rfl⟩; try simp only [List.cons_append, List.nil_append]) | fail)) | (refine yM ?_; intro _) | ((with_reducible apply gL_lookup); (first | refine JL_p rfl xR xR (pe_lookup xR xR (tabM mtab_ok xR) xT (by first | apply hlook | apply hlook2 | rfl)) ?_ | refine JL_p rfl xR xR (pe_lookupK xR xR (tabM mtab_ok xR) xH (by first | apply hlook | apply hlook2 | rfl)) ?_ | fail)) | fail)) | ((with_reducible apply gD); (first | (refine JD_nil ?_; try simp only [List.cons_append, List.nil_append]) | (refine JD_bar ?_; try simp only [List.cons_append, List.nil_append]) | refine yD ?_ | ((with_reducible apply gD_go); (first | (refine JD_goq (is_s sp lb (.map (some mb)) c) (hφ := xF) (h := ?_); rintro _ _ ⟨rfl, rfl⟩; try simp only [List.cons_append, List.nil_append]) | (refine JD_goq (hk) (hφ := (by (try simp only [List.cons_append, List.nil_append]); exact fun w hr => hK w hr.1)) (h := ?_); rintro _ _ ⟨k, rfl, _, rfl⟩; try simp only [List.cons_append, List.nil_append]) | fail)) | (refine yE ?_; intro _) | ((with_reducible apply gD_mapUpdate); (first | refine JD_mapSet xR xR xR (tabM mtab_ok xR) xT xR ?_ | fail)) | fail)) | refine yJ ?_ | ((with_reducible apply gJ_if); (first | (refine J_if xR ?_ ?_ <;> intro _ <;> (try (exfalso; first | contradiction | omega))) | (refine J_ifb xR ?_ ?_ <;> (intro hgb; subst hgb)) | (refine J_ifb xR ?_ ?_ <;> intro _) | fail)) | refine J_draw (id := 13) [0, 1, 2, 3, 4, 5, 6, 7, 8] [9] mixed xC xD xD ?_ | refine J_draw (id := 14) [0, 1, 2, 3, 4, 5, 6, 7, 8, 10, 9, 11, 12] [13] mixed xC xD xD ?_ | fail))
  exact J_ret2 rfl (by rfl) (by rfl) fun w H => ⟨_, ⟨rfl, rfl⟩, Ow.sel (stoShut hM H xZ) xZ⟩
theorem keep_hit (B : Int) (hB : B ≤ 1000000000) (sp : Nat) (A C : List En) (e : En) (c : Int) (d : At) (hd : AtF d) (hok : okN d.nf = true) (hs : StOk B (A ++ e :: C) c) (he : e.x = d.nf) : Pact Tryz.prog 39 #[.pointer (some ⟨sp, 0, none⟩), .agg (atC d).toArray] (fun w => AtV w d) [stoA sp (A ++ e :: C) c] (fun u L' => u = .tuple #[.int .i64 e.id, .int .i64 0] ∧ L' = [stoA sp (A ++ ⟨e.id, e.n + 1, e.x⟩ :: C) c]) := by
  refine pact Tryz.func39 rfl Tryz.ntmps39 rfl ?_
  intro W K hK
  have hmid := hs.mid
  have hnn := hs.n e (by simp)
  have hii := hs.ids e (by simp)
  refine J_open (fun w H => stoOpen H .here) ?_
  rintro ⟨⟨mb, lb, M⟩, hM⟩
  dsimp only at hM ⊢
  obtain ⟨MA, m, MC, rfl, rfl, hMA, hMC, hmd, hmx⟩ := hM.split
  have hkey := keyOk_s d hd hok
  have g1 : lookV (aG (byL (MA ++ m :: MC)) (keyS d.nf)) (.int .i64 0) false = .int .i64 m.e.id := by
    unfold byL
    rw [List.map_append, List.map_cons, ← he, aG_mid]
    · rfl
    · intro p hp
      obtain ⟨a, ha, rfl⟩ := List.mem_map.1 hp
      have h1 := hMA.mem ha
      have h2 := hs.ok a.e (by simp [h1])
      have h3 := hs.ok m.e (by simp)
      exact fun q => (hmid.1 _ h1).2 (keyS_inj h2.2 h3.2 h2.1 h3.1 q)
  have g2 : lookV (aG (idL (MA ++ m :: MC)) m.e.id) (.pointer none) false = .pointer (some ⟨m.b, 0, none⟩) := by
    unfold idL
    rw [List.map_append, List.map_cons, aG_mid]
    · rfl
    · intro p hp
      obtain ⟨a, ha, rfl⟩ := List.mem_map.1 hp
      exact (hmid.1 _ (hMA.mem ha)).1
  refine J_heap (fun w H => meOpen (Ow.satsMid H xA) .here) ?_
  (repeat' (first | ((with_reducible apply gL); (first | refine yL0 ?_ | ((with_reducible apply gL_lookup); (first | (first | (refine JL_p rfl xR xR (pe_lookG mi_s xR xR xA g1) ?_) | (refine JL_p rfl xR xR (pe_lookG mi_i xR xR xA g2) ?_)) | fail)) | refine yL ?_ | ((with_reducible apply gL_go); (first | (refine JL_goq (is_s sp lb (.map (some mb)) c) (hφ := xF) (h := ?_); rintro _ _ ⟨rfl, rfl⟩; try simp only [List.cons_append, List.nil_append]) | (refine JL_goq (hkey) (hφ := (by (try simp only [List.cons_append, List.nil_append]); exact fun w hr => hK w hr.1)) (h := ?_); rintro _ _ ⟨rfl, rfl⟩; try simp only [List.cons_append, List.nil_append]) | fail)) | (refine yM ?_; intro _) | ((with_reducible apply gL_lookup); (first | refine JL_p rfl xR xR (pe_lookup xR xR (tabM mtab_ok xR) xT (by first | apply hlook | apply hlook2 | rfl)) ?_ | refine JL_p rfl xR xR (pe_lookupK xR xR (tabM mtab_ok xR) xH (by first | apply hlook | apply hlook2 | rfl)) ?_ | fail)) | fail)) | ((with_reducible apply gD); (first | (refine JD_nil ?_; try simp only [List.cons_append, List.nil_append]) | (refine JD_bar ?_; try simp only [List.cons_append, List.nil_append]) | refine yD ?_ | ((with_reducible apply gD_go); (first | (refine JD_goq (is_s sp lb (.map (some mb)) c) (hφ := xF) (h := ?_); rintro _ _ ⟨rfl, rfl⟩; try simp only [List.cons_append, List.nil_append]) | (refine JD_goq (hkey) (hφ := (by (try simp only [List.cons_append, List.nil_append]); exact fun w hr => hK w hr.1)) (h := ?_); rintro _ _ ⟨rfl, rfl⟩; try simp only [List.cons_append, List.nil_append]) | fail)) | (refine yE ?_; intro _) | ((with_reducible apply gD_mapUpdate); (first | refine JD_mapSet xR xR xR (tabM mtab_ok xR) xT xR ?_ | fail)) | fail)) | refine yJ ?_ | ((with_reducible apply gJ_if); (first | (refine J_if xR ?_ ?_ <;> intro _ <;> (try (exfalso; first | contradiction | omega))) | (refine J_ifb xR ?_ ?_ <;> (intro hgb; subst hgb)) | (refine J_ifb xR ?_ ?_ <;> intro _) | fail)) | refine J_draw (id := 13) [0, 1, 2, 3, 4, 5, 6, 7, 8] [9] mixed xC xD xD ?_ | refine J_draw (id := 14) [0, 1, 2, 3, 4, 5, 6, 7, 8, 10, 9, 11, 12] [13] mixed xC xD xD ?_ | fail))
  refine J_ret2 rfl (by rfl) (by rfl) fun w H => ⟨_, ⟨rfl, rfl⟩, ?_⟩
  have e1 : byL (MA ++ m :: MC) = byL (MA ++ ⟨m.b, m.d, ⟨m.e.id, m.e.n + 1, m.e.x⟩⟩ :: MC) := by simp [byL]
  have e2 : idL (MA ++ m :: MC) = idL (MA ++ ⟨m.b, m.d, ⟨m.e.id, m.e.n + 1, m.e.x⟩⟩ :: MC) := by simp [idL]
  rw [e1, e2] at H
  have H := meShut (m := ⟨m.b, m.d, ⟨m.e.id, m.e.n + 1, m.e.x⟩⟩) H xZ
  have H := Ow.satsBack (A := MA) (B := MC) (m := ⟨m.b, m.d, ⟨m.e.id, m.e.n + 1, m.e.x⟩⟩) H .here xA
  have hJ := MOk.join (m := ⟨m.b, m.d, ⟨m.e.id, m.e.n + 1, m.e.x⟩⟩) hMA hMC hmd hmx
  exact (stoShut hJ H xZ).sel xZ
theorem ownHas {W : World} {K : Hl} {L R : List HP} {w : World} {d : At} (H : Ow W K L w) (t : Tk L (ownAt d) R) : Ow W K (has (fun w => AtV w d) :: R) w := by
  have H := H.flat t
  have H := Ow.sgsHas (q := d.path) H (.there .here)
  refine Ow.has (M := [has (fun w => ∀ s ∈ d.path, segV w s), Ar 135 2 sgC (.slice d.pa d.path.length d.pc) d.path, Ar 24 1 u32C (.slice d.ca d.comms.length d.cc) d.comms, has (fun w => RawsV w d.oa d.oc d.others)]) H (.cons .here (.cons .here (.cons .here (.cons .here .nil)))) ?_
  intro w hr
  exact ⟨⟨Src.ar (.there .here) w hr, hr.has .here⟩, Src.ar (.there (.there .here)) w hr, hr.has (.there (.there (.there .here)))⟩
theorem MOk.len {M : List Me} {S : List En} (h : MOk M S) : (idL M).length = S.length := by
  unfold idL
  rw [← h.e, List.length_map, List.length_map]
theorem keep_full (B : Int) (hB : B ≤ 1000000000) (sp : Nat) (S : List En) (c : Int) (d : At) (hd : AtF d) (hok : okN d.nf = true) (hs : StOk B S c) (hn : ∀ e ∈ S, e.x ≠ d.nf) (hf : S.length = 4096) : Pact Tryz.prog 39 #[.pointer (some ⟨sp, 0, none⟩), .agg (atC d).toArray] (fun w => AtV w d) [stoA sp S c] (fun u L' => u = .tuple #[.int .i64 0, .int .i64 4] ∧ L' = [stoA sp S c]) := by
  refine pact Tryz.func39 rfl Tryz.ntmps39 rfl ?_
  intro W K hK
  refine J_open (fun w H => stoOpen H .here) ?_
  rintro ⟨⟨mb, lb, M⟩, hM⟩
  dsimp only at hM ⊢
  have hkey := keyOk_s d hd hok
  have hln := hM.len
  have hnf := At.nfN hd.num
  have g1 : lookV (aG (byL M) (keyS d.nf)) (.int .i64 0) false = .int .i64 0 := by
    unfold byL
    rw [aG_none]
    · rfl
    · intro p hp
      obtain ⟨a, ha, rfl⟩ := List.mem_map.1 hp
      have h1 := hM.mem ha
      have h2 := hs.ok a.e h1
      exact fun q => hn _ h1 (keyS_inj h2.2 hnf h2.1 hok q)
  (repeat' (first | ((with_reducible apply gL); (first | refine yL0 ?_ | ((with_reducible apply gL_lookup); (first | (refine JL_p rfl xR xR (pe_lookG mi_s xR xR xA g1) ?_) | fail)) | ((with_reducible apply gL_c_len); (first | (refine JL_p rfl xR xR (pe_lenG mi_i xR xA hln) ?_) | fail)) | refine yL ?_ | ((with_reducible apply gL_go); (first | (refine JL_goq (is_s sp lb (.map (some mb)) c) (hφ := xF) (h := ?_); rintro _ _ ⟨rfl, rfl⟩; try simp only [List.cons_append, List.nil_append]) | (refine JL_goq (hkey) (hφ := (by (try simp only [List.cons_append, List.nil_append]); exact fun w hr => hK w hr.1)) (h := ?_); rintro _ _ ⟨rfl, rfl⟩; try simp only [List.cons_append, List.nil_append]) | fail)) | (refine yM ?_; intro _) | ((with_reducible apply gL_lookup); (first | refine JL_p rfl xR xR (pe_lookup xR xR (tabM mtab_ok xR) xT (by first | apply hlook | apply hlook2 | rfl)) ?_ | refine JL_p rfl xR xR (pe_lookupK xR xR (tabM mtab_ok xR) xH (by first | apply hlook | apply hlook2 | rfl)) ?_ | fail)) | fail)) | ((with_reducible apply gD); (first | (refine JD_nil ?_; try simp only [List.cons_append, List.nil_append]) | (refine JD_bar ?_; try simp only [List.cons_append, List.nil_append]) | refine yD ?_ | ((with_reducible apply gD_go); (first | (refine JD_goq (is_s sp lb (.map (some mb)) c) (hφ := xF) (h := ?_); rintro _ _ ⟨rfl, rfl⟩; try simp only [List.cons_append, List.nil_append]) | (refine JD_goq (hkey) (hφ := (by (try simp only [List.cons_append, List.nil_append]); exact fun w hr => hK w hr.1)) (h := ?_); rintro _ _ ⟨rfl, rfl⟩; try simp only [List.cons_append, List.nil_append]) | fail)) | (refine yE ?_; intro _) | ((with_reducible apply gD_mapUpdate); (first | refine JD_mapSet xR xR xR (tabM mtab_ok xR) xT xR ?_ | fail)) | fail)) | refine yJ ?_ | ((with_reducible apply gJ_if); (first | (refine J_if xR ?_ ?_ <;> intro _ <;> (try (exfalso; first | contradiction | omega))) | (refine J_ifb xR ?_ ?_ <;> (intro hgb; subst hgb)) | (refine J_ifb xR ?_ ?_ <;> intro _) | fail)) | refine J_draw (id := 13) [0, 1, 2, 3, 4, 5, 6, 7, 8] [9] mixed xC xD xD ?_ | refine J_draw (id := 14) [0, 1, 2, 3, 4, 5, 6, 7, 8, 10, 9, 11, 12] [13] mixed xC xD xD ?_ | fail))
  exact J_ret2 rfl (by rfl) (by rfl) fun w H => ⟨_, ⟨rfl, rfl⟩, Ow.sel (stoShut hM H xZ) xZ⟩
theorem keep_new (B : Int) (hB : B ≤ 1000000000) (sp : Nat) (S : List En) (c : Int) (d : At) (hd : AtF d) (hok : okN d.nf = true) (hs : StOk B S c) (hn : ∀ e ∈ S, e.x ≠ d.nf) (hf : S.length ≠ 4096) : Pact Tryz.prog 39 #[.pointer (some ⟨sp, 0, none⟩), .agg (atC d).toArray] (fun w => AtV w d) [stoA sp S c] (fun u L' => u = .tuple #[.int .i64 (c + 1), .int .i64 0] ∧ L' = [stoA sp (S ++ [⟨c + 1, 1, d.nf⟩]) (c + 1)]) := by
  refine pact Tryz.func39 rfl Tryz.ntmps39 rfl ?_
  intro W K hK
  refine J_open (fun w H => stoOpen H .here) ?_
  rintro ⟨⟨mb, lb, M⟩, hM⟩
  dsimp only at hM ⊢
  have hkey := keyOk_s d hd hok
  have hln := hM.len
  have hnf := At.nfN hd.num
  have hcc := hs.cnt
  have hne : ∀ p ∈ byL M, p.1 ≠ keyS d.nf := by
    intro p hp
    obtain ⟨a, ha, rfl⟩ := List.mem_map.1 hp
    have h1 := hM.mem ha
    have h2 := hs.ok a.e h1
    exact fun q => hn _ h1 (keyS_inj h2.2 hnf h2.1 hok q)
  have hni : ∀ p ∈ idL M, p.1 ≠ c + 1 := by
    intro p hp
    obtain ⟨a, ha, rfl⟩ := List.mem_map.1 hp
    have := hs.ids a.e (hM.mem ha)
    dsimp only
    omega
  have g1 : lookV (aG (byL M) (keyS d.nf)) (.int .i64 0) false = .int .i64 0 := by
    rw [aG_none hne]
    rfl
  (repeat' (first | ((with_reducible apply gL); (first | refine yL0 ?_ | ((with_reducible apply gL_lookup); (first | (refine JL_p rfl xR xR (pe_lookG mi_s xR xR xA g1) ?_) | fail)) | ((with_reducible apply gL_c_len); (first | (refine JL_p rfl xR xR (pe_lenG mi_i xR xA hln) ?_) | fail)) | refine yL ?_ | ((with_reducible apply gL_go); (first | (refine JL_goq (is_s sp lb (.map (some mb)) c) (hφ := xF) (h := ?_); rintro _ _ ⟨rfl, rfl⟩; try simp only [List.cons_append, List.nil_append]) | (refine JL_goq (hkey) (hφ := (by (try simp only [List.cons_append, List.nil_append]); exact fun w hr => hK w hr.1)) (h := ?_); rintro _ _ ⟨rfl, rfl⟩; try simp only [List.cons_append, List.nil_append]) | (refine JL_goq (copy_s d hd) (hφ := (by (try simp only [List.cons_append, List.nil_append]); exact fun w hr => hK w hr.1)) (h := ?_); rintro _ _ ⟨d', hd', hx', rfl, rfl⟩; try simp only [List.cons_append, List.nil_append]) | fail)) | (refine yM ?_; intro _) | ((with_reducible apply gL_lookup); (first | refine JL_p rfl xR xR (pe_lookup xR xR (tabM mtab_ok xR) xT (by first | apply hlook | apply hlook2 | rfl)) ?_ | refine JL_p rfl xR xR (pe_lookupK xR xR (tabM mtab_ok xR) xH (by first | apply hlook | apply hlook2 | rfl)) ?_ | fail)) | fail)) | ((with_reducible apply gD); (first | (refine JD_nil ?_; try simp only [List.cons_append, List.nil_append]) | (refine JD_bar ?_; try simp only [List.cons_append, List.nil_append]) | ((with_reducible apply gD_mapUpdate); (first | (first | (refine JD_setG mi_s xR xR xR xA xR ?_) | (refine JD_setG mi_i xR xR xR xA xR ?_)) | fail)) | refine yD ?_ | ((with_reducible apply gD_go); (first | (refine JD_goq (is_s sp lb (.map (some mb)) c) (hφ := xF) (h := ?_); rintro _ _ ⟨rfl, rfl⟩; try simp only [List.cons_append, List.nil_append]) | (refine JD_goq (hkey) (hφ := (by (try simp only [List.cons_append, List.nil_append]); exact fun w hr => hK w hr.1)) (h := ?_); rintro _ _ ⟨rfl, rfl⟩; try simp only [List.cons_append, List.nil_append]) | (refine JD_goq (copy_s d hd) (hφ := (by (try simp only [List.cons_append, List.nil_append]); exact fun w hr => hK w hr.1)) (h := ?_); rintro _ _ ⟨d', hd', hx', rfl, rfl⟩; try simp only [List.cons_append, List.nil_append]) | fail)) | (refine yE ?_; intro _) | ((with_reducible apply gD_mapUpdate); (first | refine JD_mapSet xR xR xR (tabM mtab_ok xR) xT xR ?_ | fail)) | fail)) | refine yJ ?_ | ((with_reducible apply gJ_if); (first | (refine J_if xR ?_ ?_ <;> intro _ <;> (try (exfalso; first | contradiction | omega))) | (refine J_ifb xR ?_ ?_ <;> (intro hgb; subst hgb)) | (refine J_ifb xR ?_ ?_ <;> intro _) | fail)) | refine J_draw (id := 13) [0, 1, 2, 3, 4, 5, 6, 7, 8] [9] mixed xC xD xD ?_ | refine J_draw (id := 14) [0, 1, 2, 3, 4, 5, 6, 7, 8, 10, 9, 11, 12] [13] mixed xC xD xD ?_ | fail))
  rename_i eb
  refine J_ret2 rfl (by rfl) (by rfl) fun w H => ⟨_, ⟨rfl, rfl⟩, ?_⟩
  rw [aP_new hne, aP_new hni] at H
  have e1 : byL M ++ [(keyS d.nf, Value.int .i64 (c + 1))] = byL (M ++ [⟨eb, d', ⟨c + 1, 1, d.nf⟩⟩]) := by simp [byL]
  have e2 : idL M ++ [(c + 1, Value.pointer (some ⟨eb, 0, none⟩))] = idL (M ++ [⟨eb, d', ⟨c + 1, 1, d.nf⟩⟩]) := by simp [idL]
  rw [e1, e2] at H
  have H := ownHas H xA
  have H := meShut (m := ⟨eb, d', ⟨c + 1, 1, d.nf⟩⟩) H xZ
  have H := Ow.satsBack (A := M) (B := []) (m := ⟨eb, d', ⟨c + 1, 1, d.nf⟩⟩) H .here (by rw [List.append_nil]; (first | ((with_reducible (repeat (first | exact Tk.here | apply Tk.there))); done) | ((simp only [List.cons_append, List.nil_append]); (with_reducible (repeat (first | exact Tk.here | apply Tk.there))); done) | fail))
  have hJ := MOk.join (m := ⟨eb, d', ⟨c + 1, 1, d.nf⟩⟩) hM (MC := []) (C := []) ⟨rfl, fun _ h => absurd h List.not_mem_nil⟩ hd' hx'
  exact (stoShut hJ H xZ).sel xZ
end Go.Proofs.YtnhabkipjmgaaaaGreat
namespace Go.Proofs.YtnhabkipjmgaaaaGreat
set_option linter.unusedSimpArgs false
set_option linter.unusedVariables false
set_option maxRecDepth 20000
set_option maxHeartbeats 4000000
open Go.RowKit Go.Pm

/-- What is kept by a number. -/
def fnd (S : List En) (id : Int) : Option En := S.find? (fun e => decide (e.id = id))
def fndX (S : List En) (x : Nf) : Option En := S.find? (fun e => decide (e.x = x))
noncomputable def keepF (S : List En) (c : Int) (x : Nf) : (List En × Int) × Int × Int :=
  match okN x with
  | false => ((S, c), 0, 2)
  | true => match fndX S x with
    | some e => ((S.map (fun a => if a.x = x then ⟨a.id, a.n + 1, a.x⟩ else a), c), e.id, 0)
    | none => if S.length = 4096 then ((S, c), 0, 4) else ((S ++ [⟨c + 1, 1, x⟩], c + 1), c + 1, 0)
def freeF (S : List En) (id : Int) : List En × Int :=
  match fnd S id with
  | none => (S, 5)
  | some e => if e.n = 1 then (S.filter (fun a => decide (a.id ≠ id)), 0) else (S.map (fun a => if a.id = id then ⟨a.id, a.n - 1, a.x⟩ else a), 0)
def cntF (S : List En) (id : Int) : Int := match fnd S id with | none => 0 | some e => e.n
theorem fnd_none {S : List En} {id : Int} (h : fnd S id = none) : ∀ e ∈ S, e.id ≠ id := fun e he => by
  have := List.find?_eq_none.1 h e he
  simpa using this
theorem fnd_some {S : List En} {id : Int} {e : En} (h : fnd S id = some e) : ∃ A C, S = A ++ e :: C ∧ e.id = id ∧ ∀ a ∈ A, a.id ≠ id := by
  obtain ⟨h1, A, C, h2, h3⟩ := List.find?_eq_some_iff_append.1 h
  exact ⟨A, C, h2, by simpa using h1, fun a ha => by simpa using h3 a ha⟩
theorem fndX_none {S : List En} {x : Nf} (h : fndX S x = none) : ∀ e ∈ S, e.x ≠ x := fun e he => by
  have := List.find?_eq_none.1 h e he
  simpa using this
theorem fndX_some {S : List En} {x : Nf} {e : En} (h : fndX S x = some e) : ∃ A C, S = A ++ e :: C ∧ e.x = x ∧ ∀ a ∈ A, a.x ≠ x := by
  obtain ⟨h1, A, C, h2, h3⟩ := List.find?_eq_some_iff_append.1 h
  exact ⟨A, C, h2, by simpa using h1, fun a ha => by simpa using h3 a ha⟩
theorem map_mid {α : Type} {p : α → Prop} [DecidablePred p] {g : α → α} {A C : List α} {e : α} (h1 : ∀ a ∈ A, ¬ p a) (h2 : ∀ a ∈ C, ¬ p a) (he : p e) : (A ++ e :: C).map (fun a => if p a then g a else a) = A ++ g e :: C := by
  rw [List.map_append, List.map_cons, if_pos he]
  congr 1
  · exact (List.map_congr_left fun a ha => if_neg (h1 a ha)).trans (List.map_id' A)
  · congr 1
    exact (List.map_congr_left fun a ha => if_neg (h2 a ha)).trans (List.map_id' C)
theorem filter_mid {α : Type} {p : α → Prop} [DecidablePred p] {A C : List α} {e : α} (h1 : ∀ a ∈ A, p a) (h2 : ∀ a ∈ C, p a) (he : ¬ p e) : (A ++ e :: C).filter (fun a => decide (p a)) = A ++ C := by
  rw [List.filter_append, List.filter_cons, if_neg (by simpa using he)]
  congr 1
  · exact List.filter_eq_self.2 fun a ha => decide_eq_true (h1 a ha)
  · exact List.filter_eq_self.2 fun a ha => decide_eq_true (h2 a ha)
/-- One in the middle is changed, or goes. -/
theorem StOk.set {B B' : Int} {A C : List En} {e : En} {c m : Int} (h : StOk B (A ++ e :: C) c) (hb : B ≤ B') (hm : 1 ≤ m ∧ m ≤ B') : StOk B' (A ++ ⟨e.id, m, e.x⟩ :: C) c := by
  have g : ∀ a ∈ A ++ ⟨e.id, m, e.x⟩ :: C, ∃ b ∈ A ++ e :: C, b.id = a.id ∧ b.x = a.x ∧ (a.n = b.n ∨ a.n = m) := by
    intro a ha
    rcases List.mem_append.1 ha with ha | ha
    · exact ⟨a, by simp [ha], rfl, rfl, .inl rfl⟩
    · rcases List.mem_cons.1 ha with rfl | ha
      · exact ⟨e, by simp, rfl, rfl, .inr rfl⟩
      · exact ⟨a, by simp [ha], rfl, rfl, .inl rfl⟩
  have p1 := List.pairwise_append.1 h.idd
  have p2 := List.pairwise_append.1 h.xd
  have q1 := List.pairwise_cons.1 p1.2.1
  have q2 := List.pairwise_cons.1 p2.2.1
  refine ⟨⟨h.cnt.1, by have := h.cnt.2; omega⟩, fun a ha => ?_, fun a ha => ?_, fun a ha => ?_, ?_, ?_, ?_⟩
  · obtain ⟨b, hb, e1, _⟩ := g a ha
    rw [← e1]; exact h.ids b hb
  · obtain ⟨b, hb', _, _, e3⟩ := g a ha
    have := h.n b hb'
    omega
  · obtain ⟨b, hb, _, e2, _⟩ := g a ha
    rw [← e2]; exact h.ok b hb
  · refine List.pairwise_append.2 ⟨p1.1, List.pairwise_cons.2 ⟨q1.1, q1.2⟩, fun a ha b hb => ?_⟩
    rcases List.mem_cons.1 hb with rfl | hb
    · exact p1.2.2 a ha e (by simp)
    · exact p1.2.2 a ha b (by simp [hb])
  · refine List.pairwise_append.2 ⟨p2.1, List.pairwise_cons.2 ⟨q2.1, q2.2⟩, fun a ha b hb => ?_⟩
    rcases List.mem_cons.1 hb with rfl | hb
    · exact p2.2.2 a ha e (by simp)
    · exact p2.2.2 a ha b (by simp [hb])
  · have := h.len
    simpa using this
theorem StOk.gone {B : Int} {A C : List En} {e : En} {c : Int} (h : StOk B (A ++ e :: C) c) : StOk B (A ++ C) c := by
  have g : (A ++ C).Sublist (A ++ e :: C) := (List.Sublist.refl A).append (List.sublist_cons_self e C)
  exact ⟨h.cnt, fun a ha => h.ids a (g.subset ha), fun a ha => h.n a (g.subset ha), fun a ha => h.ok a (g.subset ha), h.idd.sublist g, h.xd.sublist g, Nat.le_trans g.length_le h.len⟩
theorem StOk.new {B : Int} {S : List En} {c : Int} {x : Nf} (h : StOk B S c) (hB : 0 ≤ B) (hx : okN x = true) (hn : NfN x) (hne : ∀ e ∈ S, e.x ≠ x) (hf : S.length ≠ 4096) : StOk (B + 1) (S ++ [⟨c + 1, 1, x⟩]) (c + 1) := by
  have hc := h.cnt
  refine ⟨by omega, fun a ha => ?_, fun a ha => ?_, fun a ha => ?_, ?_, ?_, ?_⟩
  · rcases List.mem_append.1 ha with ha | ha
    · have := h.ids a ha; omega
    · obtain rfl := List.mem_singleton.1 ha; dsimp only; omega
  · rcases List.mem_append.1 ha with ha | ha
    · have := h.n a ha; omega
    · obtain rfl := List.mem_singleton.1 ha; dsimp only; omega
  · rcases List.mem_append.1 ha with ha | ha
    · exact h.ok a ha
    · obtain rfl := List.mem_singleton.1 ha; exact ⟨hx, hn⟩
  · refine List.pairwise_append.2 ⟨h.idd, List.pairwise_singleton _ _, fun a ha b hb => ?_⟩
    obtain rfl := List.mem_singleton.1 hb
    have := h.ids a ha
    dsimp only
    omega
  · refine List.pairwise_append.2 ⟨h.xd, List.pairwise_singleton _ _, fun a ha b hb => ?_⟩
    obtain rfl := List.mem_singleton.1 hb
    exact hne a ha
  · have := h.len
    simp only [List.length_append, List.length_cons, List.length_nil]
    omega
theorem keepF_hit {B : Int} {A C : List En} {e : En} {c : Int} {x : Nf} (h : StOk B (A ++ e :: C) c) (he : e.x = x) (hf : fndX (A ++ e :: C) x = some e) (hx : okN x = true) : keepF (A ++ e :: C) c x = ((A ++ ⟨e.id, e.n + 1, e.x⟩ :: C, c), e.id, 0) := by
  have hm := h.mid
  unfold keepF
  rw [hx, hf]
  dsimp only
  rw [map_mid (p := fun a : En => a.x = x) (g := fun a => ⟨a.id, a.n + 1, a.x⟩) (fun a ha => by rw [← he]; exact (hm.1 a ha).2) (fun a ha => by rw [← he]; exact (hm.2 a ha).2) he]
theorem keepF_ok {B : Int} {S : List En} {c : Int} {x : Nf} (h : StOk B S c) (hB : 0 ≤ B) (hn : NfN x) : StOk (B + 1) (keepF S c x).1.1 (keepF S c x).1.2 := by
  rcases hx : okN x with _ | _
  · have : keepF S c x = ((S, c), 0, 2) := by unfold keepF; rw [hx]
    rw [this]
    exact h.mono (by omega)
  · rcases hf : fndX S x with _ | e
    · by_cases hl : S.length = 4096
      · have : keepF S c x = ((S, c), 0, 4) := by unfold keepF; rw [hx, hf]; dsimp only; rw [if_pos hl]
        rw [this]
        exact h.mono (by omega)
      · have : keepF S c x = ((S ++ [⟨c + 1, 1, x⟩], c + 1), c + 1, 0) := by unfold keepF; rw [hx, hf]; dsimp only; rw [if_neg hl]
        rw [this]
        exact h.new hB hx hn (fndX_none hf) hl
    · obtain ⟨A, C, rfl, he, _⟩ := fndX_some hf
      rw [keepF_hit h he hf hx]
      have := h.n e (by simp)
      exact h.set (by omega) (by omega)
theorem freeF_hit {B : Int} {A C : List En} {e : En} {c id : Int} (h : StOk B (A ++ e :: C) c) (he : e.id = id) (hf : fnd (A ++ e :: C) id = some e) : freeF (A ++ e :: C) id = if e.n = 1 then (A ++ C, 0) else (A ++ ⟨e.id, e.n - 1, e.x⟩ :: C, 0) := by
  have hm := h.mid
  unfold freeF
  rw [hf]
  dsimp only
  rw [map_mid (p := fun a : En => a.id = id) (g := fun a => ⟨a.id, a.n - 1, a.x⟩) (fun a ha => by rw [← he]; exact (hm.1 a ha).1) (fun a ha => by rw [← he]; exact (hm.2 a ha).1) he,
    filter_mid (p := fun a : En => a.id ≠ id) (fun a ha => by rw [← he]; exact (hm.1 a ha).1) (fun a ha => by rw [← he]; exact (hm.2 a ha).1) (by simpa using he)]
theorem freeF_ok {B : Int} {S : List En} {c id : Int} (h : StOk B S c) : StOk B (freeF S id).1 c := by
  rcases hf : fnd S id with _ | e
  · have : freeF S id = (S, 5) := by unfold freeF; rw [hf]
    rw [this]
    exact h
  · obtain ⟨A, C, rfl, he, _⟩ := fnd_some hf
    rw [freeF_hit h he hf]
    split
    · exact h.gone
    · have := h.n e (by simp)
      exact h.set (by omega) (by omega)
/-- Nothing at all. -/
def zAt : At := ⟨0, none, 0, [], 0, false, 0, false, 0, false, false, 0, 0, none, 0, [], none, 0, []⟩
theorem zAt_f : AtF zAt := by
  refine ⟨⟨by unfold I64 zAt; decide, by unfold U32 zAt; decide, by unfold U32 zAt; decide, by unfold U32 zAt; decide, by unfold U32 zAt; decide, by unfold U32 zAt; decide, ?_, ?_, ?_⟩, by unfold zAt; decide, by unfold zAt; decide, by unfold zAt; decide⟩
  all_goals (intro s hs; exact absurd hs List.not_mem_nil)
theorem zAt_v (w : World) : AtV w zAt := ⟨⟨Vw.nil w 2, fun _ h => absurd h List.not_mem_nil⟩, Vw.nil w 1, Vw.nil w 2, fun _ h => absurd h List.not_mem_nil⟩
theorem free_miss (sp : Nat) (S : List En) (c id : Int) (hn : ∀ e ∈ S, e.id ≠ id) : Pact Tryz.prog 32 #[.pointer (some ⟨sp, 0, none⟩), .int .i64 id] (fun _ => True) [stoA sp S c] (fun u L' => u = .int .i64 5 ∧ L' = [stoA sp S c]) := by
  refine pact Tryz.func32 rfl Tryz.ntmps32 rfl ?_
  intro W K _
  refine J_open (fun w H => stoOpen H .here) ?_
  rintro ⟨⟨mb, lb, M⟩, hM⟩
  dsimp only at hM ⊢
  (repeat' (first | ((with_reducible apply gL); (first | refine yL0 ?_ | refine yL ?_ | ((with_reducible apply gL_go); (first | (refine JL_goq (find_miss sp mb lb c id M (fun a ha => hn _ (hM.mem ha))) (hφ := xF) (h := ?_); rintro _ _ ⟨rfl, rfl⟩; try simp only [List.cons_append, List.nil_append]) | fail)) | fail)) | ((with_reducible apply gD); (first | (refine JD_nil ?_; try simp only [List.cons_append, List.nil_append]) | (refine JD_bar ?_; try simp only [List.cons_append, List.nil_append]) | refine yD ?_ | fail)) | refine yJ ?_ | ((with_reducible apply gJ_if); (first | (refine J_if xR ?_ ?_ <;> intro _ <;> (try (exfalso; first | contradiction | omega))) | (refine J_ifb xR ?_ ?_ <;> (intro hgb; subst hgb)) | (refine J_ifb xR ?_ ?_ <;> intro _) | fail)) | refine J_draw (id := 7) [0, 1, 2, 3, 4, 5, 6, 7] [8] mixed xC xD xD ?_ | fail))
  exact J_ret1 rfl (by rfl) fun w H => ⟨_, ⟨rfl, rfl⟩, Ow.sel (stoShut hM H xZ) xZ⟩
theorem free_dec (B : Int) (hB : B ≤ 1000000000) (sp : Nat) (A C : List En) (e : En) (c id : Int) (hs : StOk B (A ++ e :: C) c) (he : e.id = id) (h1 : e.n ≠ 1) : Pact Tryz.prog 32 #[.pointer (some ⟨sp, 0, none⟩), .int .i64 id] (fun _ => True) [stoA sp (A ++ e :: C) c] (fun u L' => u = .int .i64 0 ∧ L' = [stoA sp (A ++ ⟨e.id, e.n - 1, e.x⟩ :: C) c]) := by
  refine pact Tryz.func32 rfl Tryz.ntmps32 rfl ?_
  intro W K _
  have hmid := hs.mid
  have hnn := hs.n e (by simp)
  refine J_open (fun w H => stoOpen H .here) ?_
  rintro ⟨⟨mb, lb, M⟩, hM⟩
  dsimp only at hM ⊢
  obtain ⟨MA, m, MC, rfl, rfl, hMA, hMC, hmd, hmx⟩ := hM.split
  refine J_heap (fun w H => meOpen (Ow.satsMid H xA) .here) ?_
  (repeat' (first | ((with_reducible apply gL); (first | refine yL0 ?_ | refine yL ?_ | ((with_reducible apply gL_go); (first | (refine JL_goq (find_hit sp mb lb c id MA MC m he (fun a ha => by rw [← he]; exact (hmid.1 _ (hMA.mem ha)).1)) (hφ := xF) (h := ?_); rintro _ _ ⟨rfl, rfl⟩; try simp only [List.cons_append, List.nil_append]) | fail)) | fail)) | ((with_reducible apply gD); (first | (refine JD_nil ?_; try simp only [List.cons_append, List.nil_append]) | (refine JD_bar ?_; try simp only [List.cons_append, List.nil_append]) | refine yD ?_ | fail)) | refine yJ ?_ | ((with_reducible apply gJ_if); (first | (refine J_if xR ?_ ?_ <;> intro _ <;> (try (exfalso; first | contradiction | omega))) | (refine J_ifb xR ?_ ?_ <;> (intro hgb; subst hgb)) | (refine J_ifb xR ?_ ?_ <;> intro _) | fail)) | refine J_draw (id := 7) [0, 1, 2, 3, 4, 5, 6, 7] [8] mixed xC xD xD ?_ | fail))
  refine J_ret1 rfl (by rfl) fun w H => ⟨_, ⟨rfl, rfl⟩, ?_⟩
  have e1 : byL (MA ++ m :: MC) = byL (MA ++ ⟨m.b, m.d, ⟨m.e.id, m.e.n - 1, m.e.x⟩⟩ :: MC) := by simp [byL]
  have e2 : idL (MA ++ m :: MC) = idL (MA ++ ⟨m.b, m.d, ⟨m.e.id, m.e.n - 1, m.e.x⟩⟩ :: MC) := by simp [idL]
  rw [e1, e2] at H
  have H := meShut (m := ⟨m.b, m.d, ⟨m.e.id, m.e.n - 1, m.e.x⟩⟩) H xZ
  have H := Ow.satsBack (A := MA) (B := MC) (m := ⟨m.b, m.d, ⟨m.e.id, m.e.n - 1, m.e.x⟩⟩) H .here xA
  have hJ := MOk.join (m := ⟨m.b, m.d, ⟨m.e.id, m.e.n - 1, m.e.x⟩⟩) hMA hMC hmd hmx
  exact (stoShut hJ H xZ).sel xZ
theorem free_gone (B : Int) (hB : B ≤ 1000000000) (sp : Nat) (A C : List En) (e : En) (c id : Int) (hs : StOk B (A ++ e :: C) c) (he : e.id = id) (h1 : e.n = 1) : Pact Tryz.prog 32 #[.pointer (some ⟨sp, 0, none⟩), .int .i64 id] (fun _ => True) [stoA sp (A ++ e :: C) c] (fun u L' => u = .int .i64 0 ∧ L' = [stoA sp (A ++ C) c]) := by
  refine pact Tryz.func32 rfl Tryz.ntmps32 rfl ?_
  intro W K _
  have hmid := hs.mid
  refine J_open (fun w H => stoOpen H .here) ?_
  rintro ⟨⟨mb, lb, M⟩, hM⟩
  dsimp only at hM ⊢
  obtain ⟨MA, m, MC, rfl, rfl, hMA, hMC, hmd, hmx⟩ := hM.split
  refine J_heap (fun w H => meOpen (Ow.satsMid H xA) .here) ?_
  (repeat' (first | ((with_reducible apply gL); (first | refine yL0 ?_ | ((with_reducible apply gL_c_delete); (first | (first | (refine JL_delG mi_i xR xR xR xA xR ?_) | (refine JD_delG mi_s xR xR xR xA xR ?_)) | fail)) | refine yL ?_ | ((with_reducible apply gL_go); (first | (refine JL_goq (find_hit sp mb lb c id MA MC m he (fun a ha => by rw [← he]; exact (hmid.1 _ (hMA.mem ha)).1)) (hφ := xF) (h := ?_); rintro _ _ ⟨rfl, rfl⟩; try simp only [List.cons_append, List.nil_append]) | fail)) | fail)) | ((with_reducible apply gD); (first | (refine JD_nil ?_; try simp only [List.cons_append, List.nil_append]) | (refine JD_bar ?_; try simp only [List.cons_append, List.nil_append]) | ((with_reducible apply gD_c_delete); (first | (first | (refine JL_delG mi_i xR xR xR xA xR ?_) | (refine JD_delG mi_s xR xR xR xA xR ?_)) | fail)) | refine yD ?_ | fail)) | refine yJ ?_ | ((with_reducible apply gJ_if); (first | (refine J_if xR ?_ ?_ <;> intro _ <;> (try (exfalso; first | contradiction | omega))) | (refine J_ifb xR ?_ ?_ <;> (intro hgb; subst hgb)) | (refine J_ifb xR ?_ ?_ <;> intro _) | fail)) | refine J_draw (id := 7) [0, 1, 2, 3, 4, 5, 6, 7] [8] mixed xC xD xD ?_ | fail))
  refine J_ret1 rfl (by rfl) fun w H => ⟨_, ⟨rfl, rfl⟩, ?_⟩
  have e1 : aD (byL (MA ++ m :: MC)) (keyS m.e.x) = byL (MA ++ MC) := by
    unfold byL
    rw [List.map_append, List.map_append, List.map_cons, aD_mid]
    intro p hp
    obtain ⟨a, ha, rfl⟩ := List.mem_map.1 hp
    have h1 := hMA.mem ha
    have h2 := hs.ok a.e (by simp [h1])
    have h3 := hs.ok m.e (by simp)
    exact fun q => (hmid.1 _ h1).2 (keyS_inj h2.2 h3.2 h2.1 h3.1 q)
  have e2 : aD (idL (MA ++ m :: MC)) id = idL (MA ++ MC) := by
    unfold idL
    rw [List.map_append, List.map_append, List.map_cons, he, aD_mid]
    intro p hp
    obtain ⟨a, ha, rfl⟩ := List.mem_map.1 hp
    rw [← he]
    exact (hmid.1 _ (hMA.mem ha)).1
  rw [e1, e2] at H
  exact (stoShut (MOk.two hMA hMC) H xZ).sel xZ
end Go.Proofs.YtnhabkipjmgaaaaGreat
namespace Go.Proofs.YtnhabkipjmgaaaaGreat
set_option linter.unusedSimpArgs false
set_option linter.unusedVariables false
set_option maxRecDepth 20000
set_option maxHeartbeats 4000000
open Go.RowKit Go.Pm

abbrev zC : List Value := [.int .i64 0, .slice none 0 0, .int .u32 0, .bool false, .int .u32 0, .bool false, .int .u32 0, .bool false, .bool false, .int .u32 0, .int .u32 0, .slice none 0 0, .slice none 0 0]
theorem get_miss (sp : Nat) (S : List En) (c id : Int) (hn : ∀ e ∈ S, e.id ≠ id) : Pact Tryz.prog 45 #[.pointer (some ⟨sp, 0, none⟩), .int .i64 id] (fun _ => True) [stoA sp S c] (fun u L' => u = .tuple #[.agg (atC zAt).toArray, .int .i64 5] ∧ L' = [stoA sp S c]) := by
  refine pact Tryz.func45 rfl Tryz.ntmps45 rfl ?_
  intro W K _
  refine J_open (fun w H => stoOpen H .here) ?_
  rintro ⟨⟨mb, lb, M⟩, hM⟩
  dsimp only at hM ⊢
  (repeat' (first | ((with_reducible apply gL); (first | refine yL0 ?_ | refine yL ?_ | ((with_reducible apply gL_go); (first | (refine JL_goq (find_miss sp mb lb c id M (fun a ha => hn _ (hM.mem ha))) (hφ := xF) (h := ?_); rintro _ _ ⟨rfl, rfl⟩; try simp only [List.cons_append, List.nil_append]) | fail)) | (refine yM ?_; intro _) | fail)) | refine yJ ?_ | ((with_reducible apply gJ_if); (first | (refine J_if xR ?_ ?_ <;> intro _ <;> (try (exfalso; first | contradiction | omega))) | (refine J_ifb xR ?_ ?_ <;> (intro hgb; subst hgb)) | (refine J_ifb xR ?_ ?_ <;> intro _) | fail)) | fail))
  exact J_retC1 (cs := zC) rfl (by rfl) (by rfl) xA (by rfl) fun w H => ⟨_, ⟨rfl, rfl⟩, Ow.sel (stoShut hM H xZ) xZ⟩
theorem get_hit (sp : Nat) (A C : List En) (e : En) (c id : Int) (he : e.id = id) (hA : ∀ a ∈ A, a.id ≠ id) : Pact Tryz.prog 45 #[.pointer (some ⟨sp, 0, none⟩), .int .i64 id] (fun _ => True) [stoA sp (A ++ e :: C) c] (fun u L' => ∃ d', AtF d' ∧ d'.nf = e.x ∧ u = .tuple #[.agg (atC d').toArray, .int .i64 0] ∧ L' = [stoA sp (A ++ e :: C) c, ownAt d']) := by
  refine pact Tryz.func45 rfl Tryz.ntmps45 rfl ?_
  intro W K _
  refine J_open (fun w H => stoOpen H .here) ?_
  rintro ⟨⟨mb, lb, M⟩, hM⟩
  dsimp only at hM ⊢
  obtain ⟨MA, m, MC, rfl, rfl, hMA, hMC, hmd, hmx⟩ := hM.split
  refine J_heap (fun w H => meOpen (Ow.satsMid H xA) .here) ?_
  (repeat' (first | ((with_reducible apply gL); (first | refine yL0 ?_ | refine yL ?_ | ((with_reducible apply gL_go); (first | (refine JL_goq (find_hit sp mb lb c id MA MC m he (fun a ha => hA _ (hMA.mem ha))) (hφ := xF) (h := ?_); rintro _ _ ⟨rfl, rfl⟩; try simp only [List.cons_append, List.nil_append]) | (refine JL_goq (copy_s m.d hmd) (hφ := (by (try simp only [List.cons_append, List.nil_append]); exact fun w hr => hr.has (φ := fun w => AtV w m.d) xA)) (h := ?_); rintro _ _ ⟨d', hd', hx', rfl, rfl⟩; try simp only [List.cons_append, List.nil_append]) | fail)) | (refine yM ?_; intro _) | fail)) | refine yJ ?_ | ((with_reducible apply gJ_if); (first | (refine J_if xR ?_ ?_ <;> intro _ <;> (try (exfalso; first | contradiction | omega))) | (refine J_ifb xR ?_ ?_ <;> (intro hgb; subst hgb)) | (refine J_ifb xR ?_ ?_ <;> intro _) | fail)) | fail))
  refine J_retC1 (cs := atC d') rfl (by rfl) (by rfl) xA (by rfl) fun w H => ⟨_, ⟨d', hd', by rw [hx', hmx], rfl, rfl⟩, ?_⟩
  have H := meShut (m := m) H xZ
  have H := Ow.satsBack (A := MA) (B := MC) (m := m) H .here xA
  exact (stoShut hM H xZ).sel xZ
theorem count_miss (sp : Nat) (S : List En) (c id : Int) (hn : ∀ e ∈ S, e.id ≠ id) : Pact Tryz.prog 30 #[.pointer (some ⟨sp, 0, none⟩), .int .i64 id] (fun _ => True) [stoA sp S c] (fun u L' => u = .int .i64 0 ∧ L' = [stoA sp S c]) := by
  refine pact Tryz.func30 rfl Tryz.ntmps30 rfl ?_
  intro W K _
  refine J_open (fun w H => stoOpen H .here) ?_
  rintro ⟨⟨mb, lb, M⟩, hM⟩
  dsimp only at hM ⊢
  (repeat' (first | ((with_reducible apply gL); (first | refine yL0 ?_ | refine yL ?_ | ((with_reducible apply gL_go); (first | (refine JL_goq (find_miss sp mb lb c id M (fun a ha => hn _ (hM.mem ha))) (hφ := xF) (h := ?_); rintro _ _ ⟨rfl, rfl⟩; try simp only [List.cons_append, List.nil_append]) | fail)) | fail)) | refine yJ ?_ | ((with_reducible apply gJ_if); (first | (refine J_if xR ?_ ?_ <;> intro _ <;> (try (exfalso; first | contradiction | omega))) | (refine J_ifb xR ?_ ?_ <;> (intro hgb; subst hgb)) | (refine J_ifb xR ?_ ?_ <;> intro _) | fail)) | fail))
  exact J_ret1 rfl (by rfl) fun w H => ⟨_, ⟨rfl, rfl⟩, Ow.sel (stoShut hM H xZ) xZ⟩
theorem count_hit (sp : Nat) (A C : List En) (e : En) (c id : Int) (he : e.id = id) (hA : ∀ a ∈ A, a.id ≠ id) : Pact Tryz.prog 30 #[.pointer (some ⟨sp, 0, none⟩), .int .i64 id] (fun _ => True) [stoA sp (A ++ e :: C) c] (fun u L' => u = .int .i64 e.n ∧ L' = [stoA sp (A ++ e :: C) c]) := by
  refine pact Tryz.func30 rfl Tryz.ntmps30 rfl ?_
  intro W K _
  refine J_open (fun w H => stoOpen H .here) ?_
  rintro ⟨⟨mb, lb, M⟩, hM⟩
  dsimp only at hM ⊢
  obtain ⟨MA, m, MC, rfl, rfl, hMA, hMC, hmd, hmx⟩ := hM.split
  refine J_heap (fun w H => meOpen (Ow.satsMid H xA) .here) ?_
  (repeat' (first | ((with_reducible apply gL); (first | refine yL0 ?_ | refine yL ?_ | ((with_reducible apply gL_go); (first | (refine JL_goq (find_hit sp mb lb c id MA MC m he (fun a ha => hA _ (hMA.mem ha))) (hφ := xF) (h := ?_); rintro _ _ ⟨rfl, rfl⟩; try simp only [List.cons_append, List.nil_append]) | fail)) | fail)) | refine yJ ?_ | ((with_reducible apply gJ_if); (first | (refine J_if xR ?_ ?_ <;> intro _ <;> (try (exfalso; first | contradiction | omega))) | (refine J_ifb xR ?_ ?_ <;> (intro hgb; subst hgb)) | (refine J_ifb xR ?_ ?_ <;> intro _) | fail)) | fail))
  refine J_ret1 rfl (by rfl) fun w H => ⟨_, ⟨rfl, rfl⟩, ?_⟩
  have H := meShut (m := m) H xZ
  have H := Ow.satsBack (A := MA) (B := MC) (m := m) H .here xA
  exact (stoShut hM H xZ).sel xZ
theorem len_s (sp : Nat) (S : List En) (c : Int) : Pact Tryz.prog 31 #[.pointer (some ⟨sp, 0, none⟩)] (fun _ => True) [stoA sp S c] (fun u L' => u = .int .i64 S.length ∧ L' = [stoA sp S c]) := by
  refine pact Tryz.func31 rfl Tryz.ntmps31 rfl ?_
  intro W K _
  refine J_open (fun w H => stoOpen H .here) ?_
  rintro ⟨⟨mb, lb, M⟩, hM⟩
  dsimp only at hM ⊢
  have hln := hM.len
  (repeat' (first | ((with_reducible apply gL); (first | refine yL0 ?_ | ((with_reducible apply gL_c_len); (first | (refine JL_p rfl xR xR (pe_lenG mi_i xR xA hln) ?_) | fail)) | refine yL ?_ | ((with_reducible apply gL_go); (first | (refine JL_goq (is_s sp lb (.map (some mb)) c) (hφ := xF) (h := ?_); rintro _ _ ⟨rfl, rfl⟩; try simp only [List.cons_append, List.nil_append]) | fail)) | fail)) | refine yJ ?_ | ((with_reducible apply gJ_if); (first | (refine J_if xR ?_ ?_ <;> intro _ <;> (try (exfalso; first | contradiction | omega))) | (refine J_ifb xR ?_ ?_ <;> (intro hgb; subst hgb)) | (refine J_ifb xR ?_ ?_ <;> intro _) | fail)) | fail))
  exact J_ret1 rfl (by rfl) fun w H => ⟨_, ⟨rfl, rfl⟩, Ow.sel (stoShut hM H xZ) xZ⟩
theorem Pact.imp {P : Program} {f : FuncId} {args : Array Value} {φ : World → Prop} {pre : List HP} {Rr Rr' : Value → List HP → Prop} (S : Pact P f args φ pre Rr) (h : ∀ v L', Rr v L' → Rr' v L') : Pact P f args φ pre Rr' := fun W K w hK H =>
  (S W K w hK H).mono fun e w' ⟨v, L', h1, h2, h3⟩ => ⟨v, L', h _ _ h1, h2, h3⟩
theorem keep_s (B : Int) (hB0 : 0 ≤ B) (hB : B ≤ 1000000000) (sp : Nat) (S : List En) (c : Int) (d : At) (hd : AtF d) (hs : StOk B S c) : Pact Tryz.prog 39 #[.pointer (some ⟨sp, 0, none⟩), .agg (atC d).toArray] (fun w => AtV w d) [stoA sp S c] (fun u L' => u = .tuple #[.int .i64 (keepF S c d.nf).2.1, .int .i64 (keepF S c d.nf).2.2] ∧ L' = [stoA sp (keepF S c d.nf).1.1 (keepF S c d.nf).1.2]) := by
  rcases hx : okN d.nf with _ | _
  · have : keepF S c d.nf = ((S, c), 0, 2) := by unfold keepF; rw [hx]
    rw [this]
    exact keep_bad sp S c d hd hx
  · rcases hf : fndX S d.nf with _ | e
    · by_cases hl : S.length = 4096
      · have : keepF S c d.nf = ((S, c), 0, 4) := by unfold keepF; rw [hx, hf]; dsimp only; rw [if_pos hl]
        rw [this]
        exact keep_full B hB sp S c d hd hx hs (fndX_none hf) hl
      · have : keepF S c d.nf = ((S ++ [⟨c + 1, 1, d.nf⟩], c + 1), c + 1, 0) := by unfold keepF; rw [hx, hf]; dsimp only; rw [if_neg hl]
        rw [this]
        exact keep_new B hB sp S c d hd hx hs (fndX_none hf) hl
    · obtain ⟨A, C, rfl, he, _⟩ := fndX_some hf
      rw [keepF_hit hs he hf hx]
      exact keep_hit B hB sp A C e c d hd hx hs he
theorem free_s (B : Int) (hB : B ≤ 1000000000) (sp : Nat) (S : List En) (c id : Int) (hs : StOk B S c) : Pact Tryz.prog 32 #[.pointer (some ⟨sp, 0, none⟩), .int .i64 id] (fun _ => True) [stoA sp S c] (fun u L' => u = .int .i64 (freeF S id).2 ∧ L' = [stoA sp (freeF S id).1 c]) := by
  rcases hf : fnd S id with _ | e
  · have : freeF S id = (S, 5) := by unfold freeF; rw [hf]
    rw [this]
    exact free_miss sp S c id (fnd_none hf)
  · obtain ⟨A, C, rfl, he, _⟩ := fnd_some hf
    rw [freeF_hit hs he hf]
    by_cases h1 : e.n = 1
    · rw [if_pos h1]
      exact free_gone B hB sp A C e c id hs he h1
    · rw [if_neg h1]
      exact free_dec B hB sp A C e c id hs he h1
def getE (S : List En) (id : Int) : Int := match fnd S id with | none => 5 | some _ => 0
def getX (S : List En) (id : Int) : Nf := match fnd S id with | none => zAt.nf | some e => e.x
theorem get_s (sp : Nat) (S : List En) (c id : Int) : Pact Tryz.prog 45 #[.pointer (some ⟨sp, 0, none⟩), .int .i64 id] (fun _ => True) [stoA sp S c] (fun u L' => ∃ d' P, AtF d' ∧ d'.nf = getX S id ∧ u = .tuple #[.agg (atC d').toArray, .int .i64 (getE S id)] ∧ L' = [stoA sp S c, has (fun w => AtV w d')] ++ P ∧ P = []) := by
  rcases hf : fnd S id with _ | e
  · have h1 : getE S id = 5 := by unfold getE; rw [hf]
    have h2 : getX S id = zAt.nf := by unfold getX; rw [hf]
    rw [h1, h2]
    intro W K w hK H
    refine (get_miss sp S c id (fnd_none hf) W K w hK H).mono ?_
    rintro e w' ⟨v, L', ⟨rfl, rfl⟩, h5, H'⟩
    exact ⟨_, _, ⟨zAt, [], zAt_f, rfl, rfl, rfl, rfl⟩, h5, (Ow.hasTrue (φ := fun w => AtV w zAt) H' zAt_v).sel xZ⟩
  · have h1 : getE S id = 0 := by unfold getE; rw [hf]
    have h2 : getX S id = e.x := by unfold getX; rw [hf]
    rw [h1, h2]
    obtain ⟨A, C, rfl, he, hA⟩ := fnd_some hf
    intro W K w hK H
    refine (get_hit sp A C e c id he hA W K w hK H).mono ?_
    rintro e w' ⟨v, L', ⟨d', hd, hx, rfl, rfl⟩, h5, H'⟩
    exact ⟨_, _, ⟨d', [], hd, hx, rfl, rfl, rfl⟩, h5, (ownHas H' xA).sel xZ⟩
theorem cnt_s (sp : Nat) (S : List En) (c id : Int) : Pact Tryz.prog 30 #[.pointer (some ⟨sp, 0, none⟩), .int .i64 id] (fun _ => True) [stoA sp S c] (fun u L' => u = .int .i64 (cntF S id) ∧ L' = [stoA sp S c]) := by
  rcases hf : fnd S id with _ | e
  · have : cntF S id = 0 := by unfold cntF; rw [hf]
    rw [this]
    exact count_miss sp S c id (fnd_none hf)
  · have : cntF S id = e.n := by unfold cntF; rw [hf]
    rw [this]
    obtain ⟨A, C, rfl, he, hA⟩ := fnd_some hf
    exact count_hit sp A C e c id he hA
/-! A store that is not there, or that no call made. -/
end Go.Proofs.YtnhabkipjmgaaaaGreat
namespace Go.Proofs.YtnhabkipjmgaaaaGreat
set_option linter.unusedSimpArgs false
set_option linter.unusedVariables false
set_option maxRecDepth 20000
set_option maxHeartbeats 4000000
open Go.RowKit Go.Pm

open T (Pf PfN Rt Ah pfC)
abbrev tbC (sp : Nat) (lim : Int) (tb : Nat) : List Value := [.pointer (some ⟨sp, 0, none⟩), .int .i64 lim, .pointer (some ⟨tb, 0, none⟩)]
/-- An update. -/
structure Up where
  wa : Option Addr
  wc : Nat
  wd : List Pf
  ta : Option Addr
  tc : Nat
  td : List Pf
  d : At
  f : Int
def upC (u : Up) : List Value := [.slice u.wa u.wd.length u.wc, .slice u.ta u.td.length u.tc, .int .i64 u.d.origin, .slice u.d.pa u.d.path.length u.d.pc, .int .u32 u.d.next, .bool u.d.hasMed, .int .u32 u.d.med, .bool u.d.hasLocal, .int .u32 u.d.loc, .bool u.d.atomic, .bool u.d.hasMaker, .int .u32 u.d.makerAS, .int .u32 u.d.maker, .slice u.d.ca u.d.comms.length u.d.cc, .slice u.d.oa u.d.others.length u.d.oc, .int .i64 u.f]
structure UpV (w : World) (u : Up) : Prop where
  wd : Vw w (.slice u.wa u.wd.length u.wc) 2 u.wd.length (flat pfC u.wd)
  td : Vw w (.slice u.ta u.td.length u.tc) 2 u.td.length (flat pfC u.td)
  d : AtV w u.d
structure UpN (u : Up) : Prop where
  wd : ∀ p ∈ u.wd, PfN p
  td : ∀ p ∈ u.td, PfN p
  d : AtF u.d
  wl : u.wd.length ≤ 1000
  tl : u.td.length ≤ 1000
theorem tst_of {F : FuncId} {caps : List Value} {q : Pf → Bool} {φ : World → Prop} {Ls : List HP} (ho : ownB Tryz.prog F = true) (h : ∀ p, PfN p → Pact Tryz.prog F (.agg (pfC p).toArray :: caps).toArray φ Ls (fun u L' => u = .bool (q p) ∧ L' = Ls)) : TstP F caps q φ (sats Ls) := ⟨ho, fun p hp W K w hK H => by
  have H2 : Ow W K (Ls ++ []) w := H.flat .here
  rw [List.append_nil] at H2
  refine (h p hp W K w hK H2).mono fun e w' h2 => ?_
  obtain ⟨u, L', ⟨rfl, rfl⟩, h5, h6⟩ := h2
  refine ⟨_, _, ⟨rfl, rfl⟩, h5, ?_⟩
  exact Ow.unflat (As := L') h6 (by have := Sb.all L' []; rwa [List.append_nil] at this)⟩
theorem delete_f (Ls : List HP) (a : Option Addr) (c n : Nat) (es : List Pf) (hes : es.length = n) (F : FuncId) (caps : List Value) (q : Pf → Bool) (φ : World → Prop) (hT : TstP F caps q φ (sats Ls)) (hn : ∀ o ∈ es, PfN o) (hl : n ≤ 1000000) :
    Pact Tryz.prog 64 #[.slice a n c, .func (.func F) #[] caps.toArray] φ (Ls ++ [Ar 41 2 pfC (.slice a n c) es]) (fun v L' => ∃ a' c', v = .slice a' (keepP q es).length c' ∧ L' = Ls ++ [Ar 41 2 pfC (.slice a' (keepP q es).length c') (keepP q es)]) := fun W K w hK H => by
  subst hes
  have H2 : Ow W K [sats Ls, Ar 41 2 pfC (.slice a es.length c) es] w := Ow.unflat (As := Ls) H (Sb.all _ _)
  refine (delete_p a c es F caps q φ (sats Ls) hT hn hl W K w hK H2).mono fun e w' h => ?_
  obtain ⟨u, L', ⟨a', c', rfl, rfl⟩, h5, h6⟩ := h
  exact ⟨_, _, ⟨a', c', rfl, rfl⟩, h5, h6.flat .here⟩
def nrt (p : Pf) : Bool := !decide (Rt p)
theorem told1_s (p : Pf) (hp : PfN p) : Pact Tryz.prog 66 #[.agg (pfC p).toArray] (fun _ => True) [] (fun u L' => u = .bool (nrt p) ∧ L' = []) := by
  refine pact Tryz.func66 rfl Tryz.ntmps66 rfl ?_
  intro W K _
  unfold nrt
  rcases hr : decide (Rt p) with _ | _
  all_goals (
    have k := T.right_b p hp _ hr
    (repeat' (first | ((with_reducible apply gL); (first | refine yL0 ?_ | refine yL ?_ | ((with_reducible apply gL_go); (first | (refine JL_goq (k) (hφ := xF) (h := ?_); rintro _ _ ⟨rfl, rfl⟩; try simp only [List.cons_append, List.nil_append]) | fail)) | (refine yM ?_; intro _) | fail)) | refine yJ ?_ | fail))
    exact J_ret1 rfl (by rfl) fun w H => ⟨_, ⟨rfl, rfl⟩, H.sel .nil⟩)
end Go.Proofs.YtnhabkipjmgaaaaGreat
