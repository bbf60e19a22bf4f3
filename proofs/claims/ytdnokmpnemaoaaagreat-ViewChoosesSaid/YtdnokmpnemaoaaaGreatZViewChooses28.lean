/-
  Aq8, Aq9, Aq10: merged.
-/
import Derived.Test.YtdnokmpnemaoaaaGreatZViewChooses27
namespace Go.Proofs.YtdnokmpnemaoaaaGreat
set_option linter.unusedSimpArgs false
set_option linter.unusedVariables false
set_option maxRecDepth 20000
set_option maxHeartbeats 4000000
open Go.RowKit Go.Pm
theorem zd162Aq8 {p q : Prop} (k : p) (h : p → q := by intro hk; first | exact J_draw (id := 8) [0, 1, 3, 4, 5, 6, 2, 7] [8, 9] mixed xC xD xD hk | fail) : q := h k

def num4 (n : Int) : List Int := [n / 16777216, n / 65536 % 256, n / 256 % 256, n % 256]
abbrev Ar4 (b : Nat) (n : Int) : HP := Ar 5 1 byC (.slice (some ⟨b, 0, none⟩) 4 4) (num4 n)
theorem num_s (n : Int) (hn : U32 n) : Pact Tryz.prog 164 #[.int .u32 n] (fun _ => True) [] (fun u L' => ∃ b, u = .slice (some ⟨b, 0, none⟩) 4 4 ∧ L' = [Ar4 b n]) := by
  refine pact Tryz.func164 rfl Tryz.ntmps164 rfl ?_
  intro W K _
  obtain ⟨h0, h1⟩ := hn
  (repeat' (first | (refine gL ?_; first | refine yL0 ?_ | refine yL ?_ | (refine yM ?_; intro _)) | refine yJ ?_ | fail))
  rename_i b
  refine J_ret1 rfl (by rfl) fun w H => ⟨_, ⟨b, rfl, rfl⟩, ?_⟩
  refine Ow.sel (Ow.arNums (bs := num4 n) H .here ?_ rfl rfl) xZ
  unfold num4
  repeat (first | exact NumsOf.nil | (refine NumsOf.cons' ?_ ?_; omega))
def kd (b : Bool) : Int := if b then 1 else 2
theorem kind_s (s : Sg) : Pact Tryz.prog 179 #[.agg (sgC s).toArray] (fun _ => True) [] (ret0 (.int .u8 (kd s.set))) := by
  refine pact Tryz.func179 rfl Tryz.ntmps179 rfl ?_
  intro W K _
  (repeat' (first | (refine gL ?_; first | refine yL0 ?_ | refine yL ?_ | (refine yM ?_; intro _)) | refine yJ ?_ | (refine yI ?_ ?_ <;> intro _ <;> try exact xX) | (refine yK ?_ ?_ <;> intro hgb <;> first | subst hgb | fail_if_success have : type_of% hgb := rfl) | fail))
  all_goals (rw [hgb]; exact J_ret1 rfl (by rfl) fun w H => ⟨_, ⟨rfl, rfl⟩, H.sel .nil⟩)
def asB (l : List Int) : List Int := l.flatMap num4
def segB (s : Bool × List Int) : List Int := kd s.1 :: (s.2.length : Int) :: asB s.2
def pB (p : List (Bool × List Int)) : List Int := p.flatMap segB
theorem asB_len (l : List Int) : (asB l).length = 4 * l.length := by
  induction l with
  | nil => rfl
  | cons x l ih =>
    have : asB (x :: l) = num4 x ++ asB l := rfl
    rw [this, List.length_append, ih]
    simp only [num4, List.length_cons, List.length_nil]
    omega
theorem pB_len (p : List (Bool × List Int)) : (pB p).length = 2 * p.length + 4 * tot p := by
  induction p with
  | nil => rfl
  | cons s p ih =>
    have : pB (s :: p) = segB s ++ pB p := rfl
    rw [this, List.length_append, ih]
    simp only [segB, List.length_cons, asB_len, tot]
    omega
theorem pB_snoc (p : List (Bool × List Int)) (s : Bool × List Int) : pB (p ++ [s]) = pB p ++ segB s := by simp [pB]
theorem asB_snoc (p : List Int) (s : Int) : asB (p ++ [s]) = asB p ++ num4 s := by simp [asB]
theorem tot_take (p : List (Bool × List Int)) (k : Nat) : tot (p.take k) ≤ tot p := by
  have : tot p = tot (p.take k) + tot (p.drop k) := by rw [← tot_append, List.take_append_drop]
  omega
structure Lb where
  j : Nat
  xs : List Int
  ad : Option Addr
  c : Nat
theorem pPut_s (a : Option Addr) (c : Nat) (p : List Sg) (h8 : p.length ≤ 1000) (hsm : ∀ s ∈ p, SgN s) (hck : ckP (pN p) 0 = true) : Pact Tryz.prog 162 #[.slice a p.length c, .bool true] (fun w => PathV w a c p) [] (fun u L' => ∃ a' c', u = .tuple #[.slice a' (pB (pN p)).length c', .int .i64 0] ∧ L' = [Ar 5 1 byC (.slice a' (pB (pN p)).length c') (pB (pN p))]) := by
  refine pact Tryz.func162 rfl Tryz.ntmps162 rfl ?_
  intro W K hK
  have hv : Kn K (fun w => Vw w (.slice a p.length c) 2 p.length (flat sgC p)) := hK.imp fun _ h => h.vw
  obtain ⟨hok, h64⟩ := (ckP_iff (pN p) 0 (by omega)).1 hck
  have hPC := pchk_s a c p h8 hsm
  rw [hck] at hPC
  (repeat' (first | (refine gL ?_; first | refine yL0 ?_ | refine yL ?_ | (refine gL_go ?_; (refine JL_goq (hPC) (hφ := (by (try simp only [cAp, nAp]); exact fun w hr => hK w hr.1)) (h := ?_); rintro _ _ ⟨rfl, rfl⟩; try simp only [cAp, nAp])) | (refine yM ?_; intro _) | (refine yA ?_; intro _ _ _ _)) | (refine gD ?_; first | (refine yN ?_; try simp only [cAp, nAp]) | refine yD ?_ | (refine gD_go ?_; (refine JD_goq (hPC) (hφ := (by (try simp only [cAp, nAp]); exact fun w hr => hK w hr.1)) (h := ?_); rintro _ _ ⟨rfl, rfl⟩; try simp only [cAp, nAp])) | (refine yE ?_; intro _) | (refine yB ?_; intro _ _ _ _)) | refine yJ ?_ | refine zd162Aq8 ?_ | (refine yI ?_ ?_ <;> intro _ <;> try exact xX) | (refine yK ?_ ?_ <;> intro hgb <;> first | subst hgb | fail_if_success have : type_of% hgb := rfl) | fail))
  refine J_loop (α := Lb) ⟨0, [], none, 0⟩ (fun x => p.length - x.j) (fun x => x.j ≤ p.length ∧ x.xs = pB (pN (p.take x.j))) (fun x => [(0, .slice a p.length c), (1, .bool true), (17, .slice a p.length c), (18, .int .i64 p.length), (19, .int .i64 x.j), (7, .slice x.ad x.xs.length x.c)]) (fun x => [Ar 5 1 byC (.slice x.ad x.xs.length x.c) x.xs]) ⟨Nat.zero_le _, rfl⟩ ⟨rfl, rfl, rfl, rfl, rfl, rfl, trivial⟩ (fun w H => (Ow.arNil (e := 5) (sz := 1) (enc := byC) H).sel xZ) ?_
  rintro ⟨k, xs, ad, cc⟩ ⟨hk, hxs⟩
  dsimp only at hk hxs ⊢
  have hxl : xs.length ≤ 2256 := by
    have h1 := tot_take (pN p) k
    have h2 : pN (p.take k) = (pN p).take k := by simp [pN]
    rw [hxs, pB_len, h2]
    simp only [List.length_take, pN, List.length_map] at h1 ⊢
    unfold pN at h64
    omega
  by_cases hlt : k < p.length
  · obtain ⟨s, hs⟩ : ∃ s, p[k]? = some s := ⟨_, List.getElem?_eq_getElem hlt⟩
    have hm := List.mem_of_getElem? hs
    obtain ⟨hsn1, hsn2⟩ := hsm s hm
    have hos := hok (s.set, s.as_) (List.mem_map.2 ⟨s, hm, rfl⟩)
    unfold okS at hos
    obtain ⟨ho1, ho2, _⟩ := of_decide_eq_true hos
    dsimp only at ho1 ho2
    have hu : Kn K (fun w => Vw w (.slice s.a s.as_.length s.c) 1 s.as_.length (flat u32C s.as_)) := hK.imp fun _ h => h.segs s hm
    (repeat' (first | (refine gL ?_; first | refine yL0 ?_ | (refine gL_c_append ?_; (refine JD_apN (bs := [kd s.set, (s.as_.length : Int)]) (tabE etab_ok xR) xR xR xA xA (by exact .cons (.cons .nil)) rfl rfl xC (by omega) xR ?_; intro ad2 cc2 _ _)) | refine yL ?_ | (refine gL_go ?_; (refine JL_goq (kind_s s) (hφ := xF) (h := ?_); rintro _ _ ⟨rfl, rfl⟩; try simp only [cAp, nAp])) | (refine yM ?_; intro _) | (refine yA ?_; intro _ _ _ _)) | (refine gD ?_; first | (refine yN ?_; try simp only [cAp, nAp]) | (refine gD_c_append ?_; (refine JD_apN (bs := [kd s.set, (s.as_.length : Int)]) (tabE etab_ok xR) xR xR xA xA (by exact .cons (.cons .nil)) rfl rfl xC (by omega) xR ?_; intro ad2 cc2 _ _)) | refine yD ?_ | (refine gD_go ?_; (refine JD_goq (kind_s s) (hφ := xF) (h := ?_); rintro _ _ ⟨rfl, rfl⟩; try simp only [cAp, nAp])) | (refine yE ?_; intro _) | (refine yB ?_; intro _ _ _ _)) | refine yJ ?_ | refine zd162Aq8 ?_ | (refine yI ?_ ?_ <;> intro _ <;> try exact xX) | (refine yK ?_ ?_ <;> intro hgb <;> first | subst hgb | fail_if_success have : type_of% hgb := rfl) | fail))
    rename_i b9
    refine J_loop (α := Lb) ⟨0, xs ++ [kd s.set, (s.as_.length : Int)], ad2, cc2⟩ (fun x => s.as_.length - x.j) (fun x => x.j ≤ s.as_.length ∧ x.xs = xs ++ [kd s.set, (s.as_.length : Int)] ++ asB (s.as_.take x.j)) (fun x => [(0, .slice a p.length c), (1, .bool true), (17, .slice a p.length c), (18, .int .i64 p.length), (19, .int .i64 k), (33, .slice s.a s.as_.length s.c), (34, .int .i64 s.as_.length), (35, .int .i64 x.j), (7, .slice x.ad x.xs.length x.c)]) (fun x => [Ar 5 1 byC (.slice x.ad x.xs.length x.c) x.xs]) ⟨Nat.zero_le _, by simp [asB]⟩ ⟨rfl, rfl, rfl, rfl, rfl, rfl, rfl, rfl, ?_, trivial⟩ (fun w H => ?_) ?_
    · dsimp only
      rw [List.length_append]
      rfl
    · dsimp only
      rw [List.length_append]
      exact H.sel xZ
    rintro ⟨j, ys, ad3, cc3⟩ ⟨hj, hys⟩
    dsimp only at hj hys ⊢
    have hyl : ys.length ≤ 4000 := by
      rw [hys, List.length_append, List.length_append, asB_len, List.length_take]
      simp only [List.length_cons, List.length_nil]
      omega
    by_cases hjl : j < s.as_.length
    · obtain ⟨x, hx⟩ : ∃ x, s.as_[j]? = some x := ⟨_, List.getElem?_eq_getElem hjl⟩
      obtain ⟨hx0, hx1⟩ := hsn2 x (List.mem_of_getElem? hx)
      (repeat' (first | (refine gL ?_; first | refine yL0 ?_ | (refine gL_c_append ?_; (refine JL_apN (tabE etab_ok xR) xR xR xA xA (by exact .cons (.cons .nil)) rfl rfl xC (by first | omega | (simp only [List.length_append, List.length_cons, List.length_nil]; omega)) xR xR ?_; intro ad4 cc4 _ _)) | refine yL ?_ | (refine yM ?_; intro _) | (refine yA ?_; intro _ _ _ _)) | (refine gD ?_; first | (refine yN ?_; try simp only [cAp, nAp]) | (refine gD_c_append ?_; (refine JL_apN (tabE etab_ok xR) xR xR xA xA (by exact .cons (.cons .nil)) rfl rfl xC (by first | omega | (simp only [List.length_append, List.length_cons, List.length_nil]; omega)) xR xR ?_; intro ad4 cc4 _ _)) | refine yD ?_ | (refine yE ?_; intro _) | (refine yB ?_; intro _ _ _ _)) | refine yJ ?_ | refine zd162Aq8 ?_ | (refine yI ?_ ?_ <;> intro _ <;> try exact xX) | (refine yK ?_ ?_ <;> intro hgb <;> first | subst hgb | fail_if_success have : type_of% hgb := rfl) | fail))
      have e : ys ++ [x / 2 ^ 24, x / 2 ^ 16 % 256] ++ [x / 2 ^ 8 % 256, x % 256] = ys ++ num4 x := by simp [num4]
      refine J_again ⟨j + 1, ys ++ num4 x, ad4, cc4⟩ (by dsimp only; omega) ⟨by dsimp only; omega, ?_⟩ ⟨rfl, rfl, rfl, rfl, rfl, rfl, rfl, rfl, ?_, trivial⟩ (fun w H => ?_)
      · dsimp only
        rw [take_snoc hx, asB_snoc, hys]
        simp
      · dsimp only
        rw [← e]
        simp only [List.length_append, List.length_cons, List.length_nil]
        rfl
      · dsimp only
        rw [← e]
        simp only [List.length_append, List.length_cons, List.length_nil] at H ⊢
        exact H.sel xZ
    · have hje : j = s.as_.length := by omega
      rw [hje, List.take_length] at hys
      (repeat' (first | (refine gL ?_; first | refine yL0 ?_ | refine yL ?_ | (refine yM ?_; intro _) | (refine yA ?_; intro _ _ _ _)) | (refine gD ?_; first | (refine yN ?_; try simp only [cAp, nAp]) | refine yD ?_ | (refine yE ?_; intro _) | (refine yB ?_; intro _ _ _ _)) | refine yJ ?_ | refine zd162Aq8 ?_ | (refine yI ?_ ?_ <;> intro _ <;> try exact xX) | (refine yK ?_ ?_ <;> intro hgb <;> first | subst hgb | fail_if_success have : type_of% hgb := rfl) | fail))
      refine J_again ⟨k + 1, ys, ad3, cc3⟩ (by dsimp only; omega) ⟨by dsimp only; omega, ?_⟩ ⟨rfl, rfl, rfl, rfl, rfl, rfl, trivial⟩ (fun w H => H.sel xZ)
      dsimp only
      rw [take_snoc hs]
      unfold pN at hxs ⊢
      rw [List.map_append, List.map_cons, List.map_nil, pB_snoc, ← hxs, hys]
      simp [segB]
  · have hke : k = p.length := by omega
    rw [hke, List.take_length] at hxs
    subst hxs
    (repeat' (first | (refine gL ?_; first | refine yL0 ?_ | refine yL ?_ | (refine yM ?_; intro _) | (refine yA ?_; intro _ _ _ _)) | (refine gD ?_; first | (refine yN ?_; try simp only [cAp, nAp]) | refine yD ?_ | (refine yE ?_; intro _) | (refine yB ?_; intro _ _ _ _)) | refine yJ ?_ | refine zd162Aq8 ?_ | (refine yI ?_ ?_ <;> intro _ <;> try exact xX) | (refine yK ?_ ?_ <;> intro hgb <;> first | subst hgb | fail_if_success have : type_of% hgb := rfl) | fail))
    exact J_ret2 rfl (by rfl) (by rfl) fun w H => ⟨_, ⟨ad, cc, rfl, rfl⟩, H.sel xZ⟩

def wrO (wb : Nat) (l : List Int) : HP := fun h => ∃ (ad : Option Addr) (cc : Nat), sats [pts wb [.slice ad l.length cc] 226, Ar 5 1 byC (.slice ad l.length cc) l] h
theorem wrOpen {W : World} {K : Hl} {L R : List HP} {w : World} {wb : Nat} {l : List Int} (H : Ow W K L w) (t : Tk L (wrO wb l) R) : ∃ x : Option Addr × Nat, Ow W K (pts wb [.slice x.1 l.length x.2] 226 :: Ar 5 1 byC (.slice x.1 l.length x.2) l :: R) w := by
  have := H.open t (Bs := fun x : Option Addr × Nat => [pts wb [.slice x.1 l.length x.2] 226, Ar 5 1 byC (.slice x.1 l.length x.2) l]) (fun k ⟨a, c, h⟩ => ⟨(a, c), h⟩)
  exact this
theorem wrShut {W : World} {K : Hl} {L R : List HP} {w : World} {wb m : Nat} {l : List Int} {ad : Option Addr} {cc : Nat} (H : Ow W K L w) (t : Sb L [pts wb [.slice ad m cc] 226, Ar 5 1 byC (.slice ad m cc) l] R) (hm : l.length = m) : Ow W K (wrO wb l :: R) w := by
  subst hm
  exact H.shut t (fun k hk => ⟨ad, cc, hk⟩)
def orF (f : Int) : Int := Go.bits .or .u8 f 16
def putB (f k : Int) (d : List Int) : List Int := (if 255 < d.length then [orF f, k, (d.length : Int) / 256, (d.length : Int) % 256] else [f, k, (d.length : Int)]) ++ d
theorem put_s (wb : Nat) (l : List Int) (f k : Int) (a : Option Addr) (c : Nat) (p : List Bs) (hk : 0 ≤ k ∧ k ≤ 255) (hp : p.length ≤ 1000) (hd : (catB p).length ≤ 65535) (hl : l.length ≤ 1000000000) : Pact Tryz.prog 167 #[.pointer (some ⟨wb, 0, none⟩), .int .u8 f, .int .i64 k, .slice a p.length c] (fun w => PartsV w a c p) [wrO wb l] (fun u L' => L' = [wrO wb (l ++ putB f k (catB p))]) := by
  refine pact Tryz.func167 rfl Tryz.ntmps167 rfl ?_
  intro W K hK
  obtain ⟨hk1, hk2⟩ := hk
  refine J_open (fun w H => wrOpen H .here) ?_
  rintro ⟨ad, cc⟩
  dsimp only
  obtain ⟨d, hD⟩ : ∃ d, catB p = d := ⟨_, rfl⟩
  have hcon := concat_s a c p hp (by omega)
  rw [hD] at hcon hd ⊢
  (repeat' (first | (refine gL ?_; first | refine yL0 ?_ | (refine gL_c_append ?_; first | (refine JL_apN (tabE etab_ok xR) xR xR xA xA (by first | exact .cons (.cons (.cons (.cons .nil))) | exact .cons (.cons (.cons .nil))) rfl rfl xC (by omega) xR xR ?_; intro ad4 cc4 _ _) | (refine JL_app (fs := d) (tabE etab_ok xR) xR xR xA (Src.ar xA) xC xL xU (by simp only [List.length_append, List.length_cons, List.length_nil]; omega) xR xR ?_; intro ad5 cc5 _ _)) | refine yL ?_ | (refine gL_go ?_; (refine JL_goq (hcon) (hφ := (by (try simp only [cAp, nAp]); exact fun w hr => hK w hr.1)) (h := ?_); rintro _ _ ⟨a1, c1, rfl, rfl⟩; try simp only [cAp, nAp])) | (refine yM ?_; intro _) | (refine yA ?_; intro _ _ _ _)) | refine yJ ?_ | (refine yI ?_ ?_ <;> intro _ <;> try exact xX) | (refine yK ?_ ?_ <;> intro hgb <;> first | subst hgb | fail_if_success have : type_of% hgb := rfl) | fail))
  · have e : l ++ putB f k d = l ++ [bits .or .u8 f 16, k, (d.length : Int) / 2 ^ (7 + 1), (d.length : Int) % 256] ++ d := by
      unfold putB orF
      rw [if_pos (by omega)]
      simp
    refine J_end0 rfl fun w H => ⟨_, rfl, ?_⟩
    rw [e]
    exact (wrShut (ad := ad5) (cc := cc5) H xZ List.length_append).sel xZ
  · have e : l ++ putB f k d = l ++ [f, k, (d.length : Int)] ++ d := by
      unfold putB
      rw [if_neg (by omega)]
      simp
    refine J_end0 rfl fun w H => ⟨_, rfl, ?_⟩
    rw [e]
    exact (wrShut (ad := ad5) (cc := cc5) H xZ List.length_append).sel xZ
theorem usual_s (wb : Nat) (l : List Int) (k : Int) (a : Option Addr) (c : Nat) (p : List Bs) (hk : 0 ≤ k ∧ k ≤ 255) (hkn : kno k = true) (hp : p.length ≤ 1000) (hd : (catB p).length ≤ 65535) (hl : l.length ≤ 1000000000) : Pact Tryz.prog 163 #[.pointer (some ⟨wb, 0, none⟩), .int .i64 k, .slice a p.length c] (fun w => PartsV w a c p) [wrO wb l] (fun u L' => L' = [wrO wb (l ++ putB (fl k) k (catB p))]) := by
  refine pact Tryz.func163 rfl Tryz.ntmps163 rfl ?_
  intro W K hK
  have hkk := known_s k
  rw [hkn] at hkk
  (repeat' (first | (refine gL ?_; first | refine yL0 ?_ | refine yL ?_ | (refine gL_go ?_; first | (refine JL_goq (hkk) (hφ := xF) (h := ?_); rintro _ _ ⟨f, rfl, hf, rfl⟩; try simp only [cAp, nAp]) | (refine JL_goq (put_s wb l f k a c p hk hp hd hl) (hφ := (by (try simp only [cAp, nAp]); exact fun w hr => hK w hr.1)) (h := ?_); rintro _ _ rfl; try simp only [cAp, nAp]))) | refine yJ ?_ | fail))
  obtain rfl := hf rfl
  exact J_end0 rfl fun w H => ⟨_, rfl, H.sel xZ⟩
theorem zd165Aq10 {p q : Prop} (k : p) (h : p → q := by intro hk; first | exact J_draw (id := 6) [0, 1, 2, 3, 5, 6, 4, 7, 8] [9] mixed xC xD xD hk | fail) : q := h k

abbrev Tl := Int × Int × List Int
def tlB (t : Tl) : List Int := putB t.1 t.2.1 t.2.2
def tlsB (l : List Tl) : List Int := l.flatMap tlB
theorem tlsB_append (l m : List Tl) : tlsB (l ++ m) = tlsB l ++ tlsB m := by simp [tlsB]
def medT (x : Nf) : List Tl := match x.med with | none => [] | some m => [(128, 4, num4 m)]
def atomT (x : Nf) : List Tl := if x.atomic then [(64, 6, [])] else []
def makT (x : Nf) : List Tl := match x.maker with | none => [] | some m => [(192, 7, num4 m.1 ++ num4 m.2)]
def comT (x : Nf) : List Tl := if x.comms.length = 0 then [] else [(192, 8, asB x.comms)]
structure Lq where
  q : List Bs
  ad : Option Addr
  c : Nat
theorem partsNil (w : World) : PartsV w none 0 [] := ⟨Vw.nil w 1, fun _ h => absurd h List.not_mem_nil⟩
theorem parts1 {K : Hl} {R R1 R2 : List HP} {w : World} {g n c : Nat} {a : Option Addr} {l : List Int} {T : TypeId} (hr : Rdw K R w) (t1 : Tk R (pts g [.slice a n c] T) R1) (t2 : Tk R (Ar 5 1 byC (.slice a n c) l) R2) (hn : l.length = n) : PartsV w (some ⟨g, 0, none⟩) 1 [⟨a, c, l⟩] := by
  subst hn
  refine ⟨Src.lit (sz := 1) (m := 1) t1 rfl (by decide) w hr, fun s hs => ?_⟩
  obtain rfl := List.mem_singleton.1 hs
  exact Src.ar t2 w hr
theorem parts2 {K : Hl} {R R1 R2 R3 : List HP} {w : World} {g n c n' c' : Nat} {a a' : Option Addr} {l l' : List Int} {T : TypeId} (hr : Rdw K R w) (t1 : Tk R (pts g [.slice a n c, .slice a' n' c'] T) R1) (t2 : Tk R (Ar 5 1 byC (.slice a n c) l) R2) (t3 : Tk R (Ar 5 1 byC (.slice a' n' c') l') R3) (hn : l.length = n) (hn' : l'.length = n') : PartsV w (some ⟨g, 0, none⟩) 2 [⟨a, c, l⟩, ⟨a', c', l'⟩] := by
  subst hn hn'
  refine ⟨Src.lit (sz := 1) (m := 2) t1 rfl (by decide) w hr, fun s hs => ?_⟩
  rcases List.mem_cons.1 hs with rfl | hs
  · exact Src.ar t2 w hr
  · obtain rfl := List.mem_singleton.1 hs
    exact Src.ar t3 w hr
theorem tlsB_len (l : List Tl) : (tlsB l).length ≤ (l.map fun t => 4 + t.2.2.length).sum := by
  induction l with
  | nil => exact Nat.le_refl _
  | cons t l ih =>
    have : tlsB (t :: l) = tlB t ++ tlsB l := rfl
    rw [this, List.length_append, List.map_cons, List.sum_cons]
    have : (tlB t).length ≤ 4 + t.2.2.length := by
      unfold tlB putB
      split <;> simp <;> omega
    omega
theorem sys_s (n : Int) (hn : U32 n) : Pact Tryz.prog 180 #[.int .u32 n, .bool true] (fun _ => True) [] (fun u L' => ∃ b, u = .slice (some ⟨b, 0, none⟩) 4 4 ∧ L' = [Ar4 b n]) := by
  refine pact Tryz.func180 rfl Tryz.ntmps180 rfl ?_
  intro W K _
  (repeat' (first | (refine gL ?_; first | refine yL0 ?_ | refine yL ?_ | (refine gL_go ?_; (refine JL_goq (num_s n hn) (hφ := xF) (h := ?_); rintro _ _ ⟨b, rfl, rfl⟩; try simp only [cAp, nAp]))) | refine yJ ?_ | (refine yI ?_ ?_ <;> intro _ <;> try exact xX) | (refine yK ?_ ?_ <;> intro hgb <;> first | subst hgb | fail_if_success have : type_of% hgb := rfl) | fail))
  exact J_ret1 rfl (by rfl) fun w H => ⟨_, ⟨_, rfl, rfl⟩, H.sel xZ⟩
theorem medT_len (x : Nf) : (tlsB (medT x)).length ≤ 100 := by
  refine Nat.le_trans (tlsB_len _) ?_
  unfold medT
  split <;> simp [num4]
theorem atomT_len (x : Nf) : (tlsB (atomT x)).length ≤ 100 := by
  refine Nat.le_trans (tlsB_len _) ?_
  unfold atomT
  split <;> simp
theorem makT_len (x : Nf) : (tlsB (makT x)).length ≤ 100 := by
  refine Nat.le_trans (tlsB_len _) ?_
  unfold makT
  split <;> simp [num4]
theorem perhaps_s (wb : Nat) (l : List Int) (d : At) (hd : AtF d) (hl : l.length ≤ 1000000) : Pact Tryz.prog 165 #[.pointer (some ⟨wb, 0, none⟩), .agg (atC d).toArray, .bool true] (fun w => AtV w d) [wrO wb l] (fun u L' => L' = [wrO wb (l ++ tlsB (medT d.nf ++ atomT d.nf ++ makT d.nf ++ comT d.nf))]) := by
  refine pact Tryz.func165 rfl Tryz.ntmps165 rfl ?_
  intro W K hK
  have hd2 := hd.comms
  have hc : Kn K (fun w => Vw w (.slice d.ca d.comms.length d.cc) 1 d.comms.length (flat u32C d.comms)) := hK.imp fun _ h => h.comms
  obtain ⟨l1, hl1⟩ : ∃ l1, l ++ tlsB (medT d.nf) = l1 := ⟨_, rfl⟩
  have hn1 : l1.length ≤ 1000000 + 100 := by have := medT_len d.nf; rw [← hl1, List.length_append]; omega
  obtain ⟨l2, hl2⟩ : ∃ l2, l1 ++ tlsB (atomT d.nf) = l2 := ⟨_, rfl⟩
  have hn2 : l2.length ≤ 1000000 + 200 := by have := atomT_len d.nf; rw [← hl2, List.length_append]; omega
  obtain ⟨l3, hl3⟩ : ∃ l3, l2 ++ tlsB (makT d.nf) = l3 := ⟨_, rfl⟩
  have hn3 : l3.length ≤ 1000000 + 300 := by have := makT_len d.nf; rw [← hl3, List.length_append]; omega
  have hfin : l ++ tlsB (medT d.nf ++ atomT d.nf ++ makT d.nf ++ comT d.nf) = l3 ++ tlsB (comT d.nf) := by
    rw [← hl3, ← hl2, ← hl1]
    simp [tlsB_append]
  rw [hfin]
  (iterate 4 (first | (refine gL ?_; first | refine yL0 ?_ | refine yL ?_ | (refine yM ?_; intro _) | (refine yA ?_; intro _ _ _ _)) | (refine gD ?_; first | (refine yN ?_; try simp only [cAp, nAp]) | refine yD ?_ | (refine yE ?_; intro _)) | refine yJ ?_ | refine zd165Aq10 ?_ | (refine yI ?_ ?_ <;> intro _ <;> try exact xX) | (refine yK ?_ ?_ <;> intro hgb <;> first | subst hgb | fail_if_success have : type_of% hgb := rfl) | fail))
  rename_i b0
  refine J_seq ?_
  refine J_cut (α := Unit) (fun _ => True) (fun _ => [(0, .pointer (some ⟨wb, 0, none⟩)), (2, .bool true), (4, .pointer (some ⟨b0, 0, none⟩))]) (fun _ => [pts b0 (atC d) 35, wrO wb l1]) ?_ (fun _ _ => ?_)
  · (repeat' (first | (refine gL ?_; first | refine yL0 ?_ | refine yL ?_ | (refine gL_go ?_; first | (refine JL_goq (num_s d.med hd.num.med) (hφ := xF) (h := ?_); rintro _ _ ⟨b1, rfl, rfl⟩; try simp only [cAp, nAp]) | (refine JL_goq (usual_s wb l 4 _ 1 [⟨some ⟨b1, 0, none⟩, 4, num4 d.med⟩] (by decide) (by decide) (by simp) (by simp [catB, num4]) (by omega)) (hφ := (by (try simp only [cAp, nAp]); exact fun w hr => parts1 (n := 4) hr xA xA rfl)) (h := ?_); rintro _ _ rfl; try simp only [cAp, nAp])) | (refine yM ?_; intro _) | (refine yA ?_; intro _ _ _ _)) | (refine gD ?_; first | (refine yN ?_; try simp only [cAp, nAp]) | refine yD ?_ | (refine gD_go ?_; first | (refine JD_goq (num_s d.med hd.num.med) (hφ := xF) (h := ?_); rintro _ _ ⟨b1, rfl, rfl⟩; try simp only [cAp, nAp]) | (refine JD_goq (usual_s wb l 4 _ 1 [⟨some ⟨b1, 0, none⟩, 4, num4 d.med⟩] (by decide) (by decide) (by simp) (by simp [catB, num4]) (by omega)) (hφ := (by (try simp only [cAp, nAp]); exact fun w hr => parts1 (n := 4) hr xA xA rfl)) (h := ?_); rintro _ _ rfl; try simp only [cAp, nAp])) | (refine yE ?_; intro _)) | refine yJ ?_ | refine zd165Aq10 ?_ | (refine yI ?_ ?_ <;> intro _ <;> try exact xX) | (refine yK ?_ ?_ <;> intro hgb <;> first | subst hgb | fail_if_success have : type_of% hgb := rfl) | fail))
    · refine J_meet () trivial ⟨rfl, rfl, rfl, trivial⟩ (fun w H => ?_)
      have e : l ++ putB (fl 4) 4 (catB [⟨some ⟨b1, 0, none⟩, 4, num4 d.med⟩]) = l1 := by
        rw [← hl1]
        simp_all [medT, At.nf, tlsB, tlB, catB, fl]
      rw [e] at H
      exact H.sel xZ
    · refine J_meet () trivial ⟨rfl, rfl, rfl, trivial⟩ (fun w H => ?_)
      have e : l = l1 := by
        rw [← hl1]
        simp_all [medT, At.nf, tlsB]
      rw [e] at H
      exact H.sel xZ
  refine J_seq ?_
  refine J_cut (α := Unit) (fun _ => True) (fun _ => [(0, .pointer (some ⟨wb, 0, none⟩)), (2, .bool true), (4, .pointer (some ⟨b0, 0, none⟩))]) (fun _ => [pts b0 (atC d) 35, wrO wb l2]) ?_ (fun _ _ => ?_)
  · (repeat' (first | (refine gL ?_; first | refine yL0 ?_ | refine yL ?_ | (refine gL_go ?_; (refine JL_goq (usual_s wb l1 6 none 0 [] (by decide) (by decide) (by simp) (by simp [catB]) (by omega)) (hφ := (by (try simp only [cAp, nAp]); exact fun w hr => partsNil w)) (h := ?_); rintro _ _ rfl; try simp only [cAp, nAp])) | (refine yM ?_; intro _) | (refine yA ?_; intro _ _ _ _)) | (refine gD ?_; first | (refine yN ?_; try simp only [cAp, nAp]) | refine yD ?_ | (refine gD_go ?_; (refine JD_goq (usual_s wb l1 6 none 0 [] (by decide) (by decide) (by simp) (by simp [catB]) (by omega)) (hφ := (by (try simp only [cAp, nAp]); exact fun w hr => partsNil w)) (h := ?_); rintro _ _ rfl; try simp only [cAp, nAp])) | (refine yE ?_; intro _)) | refine yJ ?_ | refine zd165Aq10 ?_ | (refine yI ?_ ?_ <;> intro _ <;> try exact xX) | (refine yK ?_ ?_ <;> intro hgb <;> first | subst hgb | fail_if_success have : type_of% hgb := rfl) | fail))
    · refine J_meet () trivial ⟨rfl, rfl, rfl, trivial⟩ (fun w H => ?_)
      have e : l1 ++ putB (fl 6) 6 (catB []) = l2 := by
        rw [← hl2]
        simp_all [atomT, At.nf, tlsB, tlB, catB, fl]
      rw [e] at H
      exact H.sel xZ
    · refine J_meet () trivial ⟨rfl, rfl, rfl, trivial⟩ (fun w H => ?_)
      have e : l1 = l2 := by
        rw [← hl2]
        simp_all [atomT, At.nf, tlsB]
      rw [e] at H
      exact H.sel xZ
  refine J_seq ?_
  refine J_cut (α := Unit) (fun _ => True) (fun _ => [(0, .pointer (some ⟨wb, 0, none⟩)), (2, .bool true), (4, .pointer (some ⟨b0, 0, none⟩))]) (fun _ => [pts b0 (atC d) 35, wrO wb l3]) ?_ (fun _ _ => ?_)
  · (repeat' (first | (refine gL ?_; first | refine yL0 ?_ | refine yL ?_ | (refine gL_go ?_; first | (refine JL_goq (sys_s d.makerAS hd.num.makerAS) (hφ := xF) (h := ?_); rintro _ _ ⟨b1, rfl, rfl⟩; try simp only [cAp, nAp]) | (refine JL_goq (num_s d.maker hd.num.maker) (hφ := xF) (h := ?_); rintro _ _ ⟨b2, rfl, rfl⟩; try simp only [cAp, nAp]) | (refine JL_goq (usual_s wb l2 7 _ 2 [⟨some ⟨b1, 0, none⟩, 4, num4 d.makerAS⟩, ⟨some ⟨b2, 0, none⟩, 4, num4 d.maker⟩] (by decide) (by decide) (by simp) (by simp [catB, num4]) (by omega)) (hφ := (by (try simp only [cAp, nAp]); exact fun w hr => parts2 (n := 4) (n' := 4) hr xA xA xA rfl rfl)) (h := ?_); rintro _ _ rfl; try simp only [cAp, nAp])) | (refine yM ?_; intro _) | (refine yA ?_; intro _ _ _ _)) | (refine gD ?_; first | (refine yN ?_; try simp only [cAp, nAp]) | refine yD ?_ | (refine gD_go ?_; first | (refine JD_goq (sys_s d.makerAS hd.num.makerAS) (hφ := xF) (h := ?_); rintro _ _ ⟨b1, rfl, rfl⟩; try simp only [cAp, nAp]) | (refine JD_goq (num_s d.maker hd.num.maker) (hφ := xF) (h := ?_); rintro _ _ ⟨b2, rfl, rfl⟩; try simp only [cAp, nAp]) | (refine JD_goq (usual_s wb l2 7 _ 2 [⟨some ⟨b1, 0, none⟩, 4, num4 d.makerAS⟩, ⟨some ⟨b2, 0, none⟩, 4, num4 d.maker⟩] (by decide) (by decide) (by simp) (by simp [catB, num4]) (by omega)) (hφ := (by (try simp only [cAp, nAp]); exact fun w hr => parts2 (n := 4) (n' := 4) hr xA xA xA rfl rfl)) (h := ?_); rintro _ _ rfl; try simp only [cAp, nAp])) | (refine yE ?_; intro _)) | refine yJ ?_ | refine zd165Aq10 ?_ | (refine yI ?_ ?_ <;> intro _ <;> try exact xX) | (refine yK ?_ ?_ <;> intro hgb <;> first | subst hgb | fail_if_success have : type_of% hgb := rfl) | fail))
    · refine J_meet () trivial ⟨rfl, rfl, rfl, trivial⟩ (fun w H => ?_)
      have e : l2 ++ putB (fl 7) 7 (catB [⟨some ⟨b1, 0, none⟩, 4, num4 d.makerAS⟩, ⟨some ⟨b2, 0, none⟩, 4, num4 d.maker⟩]) = l3 := by
        rw [← hl3]
        simp_all [makT, At.nf, tlsB, tlB, catB, fl]
      rw [e] at H
      exact H.sel xZ
    · refine J_meet () trivial ⟨rfl, rfl, rfl, trivial⟩ (fun w H => ?_)
      have e : l2 = l3 := by
        rw [← hl3]
        simp_all [makT, At.nf, tlsB]
      rw [e] at H
      exact H.sel xZ
  clear hl3 hl2 hl1 hfin
  (repeat' (first | (refine gL ?_; first | refine yL0 ?_ | refine yL ?_ | (refine yM ?_; intro _) | (refine yA ?_; intro _ _ _ _)) | (refine gD ?_; first | (refine yN ?_; try simp only [cAp, nAp]) | refine yD ?_ | (refine yE ?_; intro _)) | refine yJ ?_ | refine zd165Aq10 ?_ | (refine yI ?_ ?_ <;> intro _ <;> try exact xX) | (refine yK ?_ ?_ <;> intro hgb <;> first | subst hgb | fail_if_success have : type_of% hgb := rfl) | fail))
  · refine J_loop (α := Lq) ⟨[], none, 0⟩ (fun x => d.comms.length - x.q.length) (fun x => x.q.length ≤ d.comms.length ∧ x.q.map (·.l) = (d.comms.take x.q.length).map num4) (fun x => [(0, .pointer (some ⟨wb, 0, none⟩)), (38, .slice d.ca d.comms.length d.cc), (39, .int .i64 d.comms.length), (40, .int .i64 x.q.length), (6, .slice x.ad x.q.length x.c)])
      (fun x => [Ar 77 1 bsC (.slice x.ad x.q.length x.c) x.q, has (fun w => ∀ s ∈ x.q, bsV w s), wrO wb l3]) ⟨Nat.zero_le _, rfl⟩ ⟨rfl, rfl, rfl, rfl, rfl, trivial⟩ (fun w H => (Ow.hasTrue (φ := fun w => ∀ s ∈ ([] : List Bs), bsV w s) (Ow.arNil (e := 77) (sz := 1) (enc := bsC) H) (by intro _ _ h; exact absurd h List.not_mem_nil)).sel xZ) ?_
    rintro ⟨q, ad, cc⟩ ⟨hq, hsame⟩
    dsimp only at hq hsame ⊢
    by_cases hlt : q.length < d.comms.length
    · obtain ⟨x, hx⟩ : ∃ x, d.comms[q.length]? = some x := ⟨_, List.getElem?_eq_getElem hlt⟩
      have hxn := hd.num.comms x (List.mem_of_getElem? hx)
      (repeat' (first | (refine gL ?_; first | refine yL0 ?_ | (refine gL_c_append ?_; (refine JL_ap1 (z := Bs.mk (some ⟨b3, 0, none⟩) 4 (num4 x)) (tabE etab_ok xR) xR xR xA xA xC xR xL xR (by omega) xR xR ?_; intro ad3 c3 _ _)) | refine yL ?_ | (refine gL_go ?_; (refine JL_goq (num_s x hxn) (hφ := xF) (h := ?_); rintro _ _ ⟨b3, rfl, rfl⟩; try simp only [cAp, nAp])) | (refine yM ?_; intro _) | (refine yA ?_; intro _ _ _ _)) | (refine gD ?_; first | (refine yN ?_; try simp only [cAp, nAp]) | refine yD ?_ | (refine gD_go ?_; (refine JD_goq (num_s x hxn) (hφ := xF) (h := ?_); rintro _ _ ⟨b3, rfl, rfl⟩; try simp only [cAp, nAp])) | (refine yE ?_; intro _)) | refine yJ ?_ | refine zd165Aq10 ?_ | (refine yI ?_ ?_ <;> intro _ <;> try exact xX) | (refine yK ?_ ?_ <;> intro hgb <;> first | subst hgb | fail_if_success have : type_of% hgb := rfl) | fail))
      refine J_again ⟨q ++ [Bs.mk (some ⟨b3, 0, none⟩) 4 (num4 x)], ad3, c3⟩ (by simp; omega) ⟨by simp; omega, ?_⟩ ⟨rfl, rfl, rfl, ?_, ?_, trivial⟩ (fun w H => ?_)
      · simp only [List.length_append, List.length_cons, List.length_nil]
        rw [take_snoc hx, List.map_append, List.map_append, hsame]
        rfl
      · show some _ = some _
        simp
      · show some _ = some _
        simp
      · simp only [List.length_append, List.length_cons, List.length_nil]
        refine (Ow.has (M := [Ar4 b3 x, has (fun w => ∀ s ∈ q, bsV w s)]) (φ := fun w => ∀ s ∈ q ++ [Bs.mk (some ⟨b3, 0, none⟩) 4 (num4 x)], bsV w s) H xZ ?_).sel xZ
        intro w hr s hs
        rcases List.mem_append.1 hs with hs | hs
        · exact hr.has (.there .here) s hs
        · obtain rfl := List.mem_singleton.1 hs
          exact Src.ar .here w hr
    · have hql : q.length = d.comms.length := by omega
      have hcat : catB q = asB d.comms := by
        rw [hql, List.take_length] at hsame
        unfold catB asB
        rw [List.flatMap_def, List.flatMap_def, hsame]
      have hcl : (catB q).length ≤ 65535 := by rw [hcat, asB_len]; omega
      (repeat' (first | (refine gL ?_; first | refine yL0 ?_ | refine yL ?_ | (refine gL_go ?_; (refine JL_goq (usual_s wb l3 8 ad cc q (by decide) (by decide) (by omega) hcl (by omega)) (hφ := (by (try simp only [cAp, nAp]); exact fun w hr => ⟨Src.ar xA w hr, fun s hs => hr.has (φ := fun w => ∀ s ∈ q, bsV w s) xA s hs⟩)) (h := ?_); rintro _ _ rfl; try simp only [cAp, nAp])) | (refine yM ?_; intro _) | (refine yA ?_; intro _ _ _ _)) | (refine gD ?_; first | (refine yN ?_; try simp only [cAp, nAp]) | refine yD ?_ | (refine gD_go ?_; (refine JD_goq (usual_s wb l3 8 ad cc q (by decide) (by decide) (by omega) hcl (by omega)) (hφ := (by (try simp only [cAp, nAp]); exact fun w hr => ⟨Src.ar xA w hr, fun s hs => hr.has (φ := fun w => ∀ s ∈ q, bsV w s) xA s hs⟩)) (h := ?_); rintro _ _ rfl; try simp only [cAp, nAp])) | (refine yE ?_; intro _)) | refine yJ ?_ | refine zd165Aq10 ?_ | (refine yI ?_ ?_ <;> intro _ <;> try exact xX) | (refine yK ?_ ?_ <;> intro hgb <;> first | subst hgb | fail_if_success have : type_of% hgb := rfl) | fail))
      refine J_end0 rfl fun w H => ⟨_, rfl, ?_⟩
      have e : tlsB (comT d.nf) = putB (fl 8) 8 (catB q) := by
        have : ¬ d.nf.comms.length = 0 := by show ¬ d.comms.length = 0; omega
        unfold comT
        rw [if_neg this, hcat]
        simp [tlsB, tlB, fl, At.nf]
      rw [e]
      exact H.sel xZ
  · refine J_end0 rfl fun w H => ⟨_, rfl, ?_⟩
    have e : tlsB (comT d.nf) = [] := by
      have : d.nf.comms.length = 0 := by show d.comms.length = 0; omega
      unfold comT
      rw [if_pos this]
      rfl
    rw [e, List.append_nil]
    exact H.sel xZ
end Go.Proofs.YtdnokmpnemaoaaaGreat
