/-
  The calls of SendEnds, as they stand in its rounds.
-/
import Derived.Test.YtocdmefajlillaaSn9
namespace Go.Proofs.Ytocdmefajlillaa
set_option linter.unusedSimpArgs false
set_option linter.unusedVariables false
set_option maxRecDepth 20000
set_option maxHeartbeats 4000000
open Go.RowKit Go.Pm

theorem among_s (x : Int) (n : Nat) (h1 : 1 ≤ n) (h2 : n ≤ 1000000) (hx : I64 x) : Pact Try.prog 7 #[.int .i64 x, .int .i64 n] (fun _ => True) [] (fun v L' => ∃ k : Nat, v = .int .i64 k ∧ k < n ∧ L' = []) := by
  refine pact Try.func7 rfl Try.ntmps7 rfl ?_
  intro W K _
  unfold I64 at hx
  (repeat' (first | ((with_reducible apply gJ); (first | refine J_seq ?_ | refine J_reg ?_ | refine J_skip ?_ | refine J_block ?_ | refine J_blk ?_ | refine J_exit rfl ?_ | refine J_goto rfl ?_ | ((with_reducible apply gJ_if); (first | refine J_ift rfl ?_ | refine J_iff rfl ?_ | (refine J_if xR ?_ ?_ <;> intro _ <;> (try (exfalso; first | contradiction | omega))) | (refine J_ifb xR ?_ ?_ <;> (intro hgb; subst hgb)) | (refine J_ifb xR ?_ ?_ <;> intro _) | fail)) | refine J_label ?_ | fail)) | ((with_reducible apply gL); (first | refine JL_nil ?_ | refine L_move ?_ | refine L_assign ?_ | refine L_bin_lss ?_ | refine L_bin_rem ?_ | refine L_convert_i64 ?_ | refine L_convert_u64 ?_ | refine L_convert_r ?_ | fail)) | fail))
  have h3 : 0 ≤ x % 18446744073709551616 % (n : Int) := Int.emod_nonneg _ (by omega)
  have h4 : x % 18446744073709551616 % (n : Int) < n := Int.emod_lt_of_pos _ (by omega)
  refine J_ret1 rfl (by rfl) fun w H => ⟨_, ⟨(x % 18446744073709551616 % (n : Int)).toNat, ?_, by omega, rfl⟩, H.sel .nil⟩
  rw [w_i64 (by omega) (by omega), Int.toNat_of_nonneg h3]
theorem write_e (b eb : Nat) (til fr una : Int) (a : Option Addr) (c : Nat) (data : List Int) (room win gr now : Int) (av : Option Addr) (mn cv : Nat) (m : List Int) (hmn : m.length = mn) (j : Nat) (hj : min (mn : Int) (room - data.length) = j) (d2 : List Int) (h2 : data ++ m.take j = d2) (hd : data.length ≤ 65535) (hm : mn ≤ 65535) (hr : data.length ≤ room ∧ room ≤ 65535) : Pact Try.prog 8 #[.pointer (some ⟨b, 0, none⟩), .slice av mn cv] (fun w => Vw w (.slice av mn cv) 1 mn (flat byC m)) [pts b (obC eb false til fr una a data.length c 0 room win gr now) 43, Ar 5 1 byC (.slice a data.length c) data] (fun u L' => ∃ a' c', u = .int .i64 j ∧ L' = [pts b (obC eb false til fr una a' d2.length c' 0 room win gr now) 43, Ar 5 1 byC (.slice a' d2.length c') d2]) := by
  subst hmn
  have hl : d2.length = data.length + j := by
    rw [← h2, List.length_append, List.length_take]
    omega
  rw [hl, ← h2]
  exact write_s b eb false til fr una a c data 0 room win gr now av cv m j hj hd hm hr
theorem send_e (b eb : Nat) (til fr una : Int) (a : Option Addr) (c : Nat) (data : List Int) (room win gr now t : Int) (m : Nat) (bs : List Int) (hb : data.take m = bs) (hm : 0 < m) (hmin : min (min gr ((data.length : Int))) win = m) (hd : data.length ≤ 1000000) (hw : 0 ≤ win ∧ win ≤ 65535) (ht : now ≤ t) (hu : U32 una) : Pact Try.prog 9 #[.pointer (some ⟨b, 0, none⟩), .int .i64 t] (fun _ => True) [pts b (obC eb false til fr una a data.length c 0 room win gr now) 43, Ar 5 1 byC (.slice a data.length c) data] (fun u L' => ∃ (x til : Int) (a' : Option Addr) (c' : Nat), (til - una) % 4294967296 = 1 ∧ u = .tuple #[.int .u32 x, .slice a' bs.length c', .int .i64 0] ∧ L' = [pts b (obC eb true til t una a data.length c m room win gr t) 43, Ar 5 1 byC (.slice a data.length c) data, Ar 5 1 byC (.slice a' bs.length c') bs]) := by
  have hl : bs.length = m := by rw [← hb, List.length_take]; omega
  have h := send_ok b eb false til fr una a c data 0 room win gr now t m hm (by simpa using hmin) hd hw (by omega) ht rfl
  intro W K w hK H
  refine (h W K w hK H).mono fun e w' h' => ?_
  obtain ⟨u, L', ⟨a', c', h1, h2⟩, h5, h6⟩ := h'
  refine ⟨u, L', ⟨(una + ((0 : Nat) : Int)) % 4294967296, ((una + ((0 : Nat) : Int)) % 4294967296 + 1) % 4294967296, a', c', ?_, by rw [hl]; exact h1, ?_⟩, h5, h6⟩
  rotate_left
  · rw [h2, hl, List.drop_zero, hb, show (((0 : Nat) : Int) + (m : Int)) = m by omega]
  · unfold U32 at hu
    omega
theorem probe_e (b eb : Nat) (til fr una : Int) (a : Option Addr) (c : Nat) (data : List Int) (room win gr now t : Int) (bs : List Int) (hb : data.take 1 = bs) (hm : 0 < data.length) (hd : data.length ≤ 1000000) (hw : win = 0) (ht : now ≤ t) (hu : U32 una) : Pact Try.prog 10 #[.pointer (some ⟨b, 0, none⟩), .int .i64 t] (fun _ => True) [pts b (obC eb false til fr una a data.length c 0 room win gr now) 43, Ar 5 1 byC (.slice a data.length c) data] (fun u L' => ∃ (x til : Int) (a' : Option Addr) (c' : Nat), (til - una) % 4294967296 = 1 ∧ u = .tuple #[.int .u32 x, .slice a' bs.length c', .int .i64 0] ∧ L' = [pts b (obC eb true til t una a data.length c (1 : Nat) room win gr t) 43, Ar 5 1 byC (.slice a data.length c) data, Ar 5 1 byC (.slice a' bs.length c') bs]) := by
  have hl : bs.length = 1 := by rw [← hb, List.length_take]; omega
  have h := probe_ok b eb false til fr una a c data 0 room win gr now t hw rfl hm hd ht rfl
  intro W K w hK H
  refine (h W K w hK H).mono fun e w' h' => ?_
  obtain ⟨u, L', ⟨a', c', h1, h2⟩, h5, h6⟩ := h'
  refine ⟨u, L', ⟨(una + ((0 : Nat) : Int)) % 4294967296, ((una + ((0 : Nat) : Int)) % 4294967296 + 1) % 4294967296, a', c', ?_, by rw [hl]; exact h1, ?_⟩, h5, h6⟩
  rotate_left
  · rw [h2, hl, List.drop_zero, hb, show (((0 : Nat) : Int) + (1 : Int)) = ((1 : Nat) : Int) by omega]
  · unfold U32 at hu
    omega
theorem sendno_e (b eb : Nat) (til fr una : Int) (a : Option Addr) (c : Nat) (data : List Int) (room win gr now t : Int) (hmin : min (min gr ((data.length : Int))) win ≤ 0) (hd : data.length ≤ 1000000) (hw : 0 ≤ win ∧ win ≤ 65535) (ht : now ≤ t) : Pact Try.prog 9 #[.pointer (some ⟨b, 0, none⟩), .int .i64 t] (fun _ => True) [pts b (obC eb false til fr una a data.length c 0 room win gr now) 43] (fun u L' => u = .tuple #[.int .u32 0, .slice none 0 0, .int .i64 5] ∧ L' = [pts b (obC eb false til fr una a data.length c 0 room win gr t) 43]) :=
  send_no b eb false til fr una a c data 0 room win gr now t (by simpa using hmin) hd hw (by omega) ht
theorem probeno_e (b eb : Nat) (til fr una : Int) (a : Option Addr) (c : Nat) (data : List Int) (room win gr now t : Int) (hw : 0 ≤ win) (hl : data.length = 0) (ht : now ≤ t) : Pact Try.prog 10 #[.pointer (some ⟨b, 0, none⟩), .int .i64 t] (fun _ => True) [pts b (obC eb false til fr una a data.length c 0 room win gr now) 43] (fun u L' => u = .tuple #[.int .u32 0, .slice none 0 0, .int .i64 5] ∧ L' = [pts b (obC eb false til fr una a data.length c 0 room win gr t) 43]) := by
  by_cases h : 0 < win
  · exact probe_busy b eb false til fr una a c data 0 room win gr now t (.inl h) ht
  · exact probe_none b eb false til fr una a c data 0 room win gr now t (by omega) rfl hl ht
theorem ack_e (b eb : Nat) (til una : Int) (a : Option Addr) (c : Nat) (data : List Int) (m : Nat) (d3 : List Int) (h3 : data.drop m = d3) (room win gr t ack wn : Int) (any : Bool) (hack : (ack - una) % 4294967296 = m) (h0 : 0 < m) (hwn : 0 ≤ wn ∧ wn ≤ 65535) (hn : m ≤ data.length) (hd : data.length ≤ 65535) (hw : (til - una) % 4294967296 = 1) (ht : 0 ≤ t ∧ t ≤ 1000000000) :
    Pact Try.prog 11 #[.pointer (some ⟨b, 0, none⟩), .int .i64 t, .int .u32 ack, .int .i64 wn] (fun _ => True) [pts b (obC eb true til t una a data.length c m room win gr t) 43, pts eb (esC 0 0 0 any) 57, Ar 5 1 byC (.slice a data.length c) data]
      (fun u L' => ∃ (a' : Option Addr) (c' : Nat), u = .tuple #[.int .i64 m, .int .i64 0] ∧ L' = [pts b (obC eb false til t ((una + m) % 4294967296) a' d3.length c' 0 room wn gr t) 43, pts eb (esC 0 0 0 true) 57, Ar 5 1 byC (.slice a' d3.length c') d3]) := by
  have h := ack_s b eb til t una a c data m m room win gr t t ack wn 0 0 0 0 any (Int.le_refl _) hack h0 hwn hn hd ⟨by omega, by omega⟩ (by omega) (by omega) (by omega) ⟨ht.1, ht.1, ht.2⟩ (fun _ => ⟨rfl, rfl, rfl⟩)
  have hl : d3.length = data.length - m := by rw [← h3, List.length_drop]
  intro W K w hK H
  refine (h W K w hK H).mono fun e w' h' => ?_
  obtain ⟨u, L', ⟨s', v', a', c', h1, h2, h4⟩, h5, h6⟩ := h'
  obtain ⟨rfl, rfl⟩ := h1 rfl
  refine ⟨u, L', ⟨a', c', h2, ?_⟩, h5, h6⟩
  rw [h4, hl, h3, Int.sub_self]
theorem ack0_e (b eb : Nat) (til fr una : Int) (a : Option Addr) (n0 c : Nat) (room win gr t ack wn : Int) (hack : (ack - una) % 4294967296 = 0) (hwn : 0 ≤ wn ∧ wn ≤ 65535) :
    Pact Try.prog 11 #[.pointer (some ⟨b, 0, none⟩), .int .i64 t, .int .u32 ack, .int .i64 wn] (fun _ => True) [pts b (obC eb false til fr una a n0 c 0 room win gr t) 43]
      (fun u L' => u = .tuple #[.int .i64 0, .int .i64 0] ∧ L' = [pts b (obC eb false til fr una a n0 c 0 room wn gr t) 43]) :=
  ack0_s b eb false til fr una a n0 c 0 room win gr t t ack wn (Int.le_refl _) hack (Int.le_refl _) hwn
end Go.Proofs.Ytocdmefajlillaa
