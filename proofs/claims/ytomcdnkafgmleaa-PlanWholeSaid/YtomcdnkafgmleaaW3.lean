/- The walk of the law PlanWhole: it returns true. -/
import Derived.Test.YtomcdnkafgmleaaW2
namespace Go.Proofs.Ytomcdnkafgmleaa
open Go.RowKit

set_option maxRecDepth 100000 in
set_option maxHeartbeats 8000000 in
theorem whole_short (a0 : Option Addr) (len cap0 : Nat) (f : Nat → Int) (c m n : Nat) (w : World) (hD1 : n ≤ len) (hD2 : len ≤ n) (hn : n ≤ 500) (hlm : len ≤ 9223372036854775807) (hc : c ≤ 255) (hm : m ≤ 255) (hf : ∀ j, 0 ≤ f j ∧ f j ≤ 255)
    (hA : 0 < len → ∃ b off, a0 = some ⟨b, off, none⟩ ∧ b < w.heap.size ∧ ∀ j, j < len → w.cell? ⟨b, off + j, none⟩ = some (.int .u8 (f j))) :
    Calls Try.prog 7 #[.slice a0 len cap0, .int .u8 (c : Int), .int .u8 (m : Int)] w fun e w' => e = .returned (.bool true) ∧ Below w.heap.size w w' := by
  obtain ⟨x0, y0, x1, y1, x2, y2, x3, y3, u0, r0, u1, r1, u2, r2, u3, r3, e0, e1, e2, e3, e4, e5, e6, e7, hq, hmv⟩ := quarters_said f n hf hn
  have Q1 := Lib.hid hq
  have Q2 := Lib.hid hmv
  have HA := Lib.hid hA
  have HF := Lib.hid hf
  have SB := Lib.hid (sum_bounds hf)
  have S1 := Lib.hid (fun v w hv => whole_smooth1 (lst f n) (lst_mem hf) (by rw [lst_len]; omega) v w hv)
  have ST := Lib.hid (fun v w hv => whole_stats c (m + 1) hc (by omega) (by omega) v w hv)
  have S5 := Lib.hid (fun v w hv => whole_smooth5 c (m + 1) hc (by omega) v w hv)
  have cc := neq_false (int_order (c : Int))
  have zz : (FloatKind.f64.format.order 0 0 != some .eq) = false := by decide
  clear hq hmv hA hf
  go_enter Try.func7, Try.ntmps7
  go_wp2_with fail
  go_loopw [7, 8, 9] (fun tv sv i wr => ∃ (k : Nat) (v : Value), k ≤ n ∧ i = .int .i64 k ∧ sv = .int .i64 (sumTo f k) ∧ v = tv ∧ Below w.heap.size w wr ∧ wr.ownsRow w.heap.size 3 1 v k ((List.range k).map fun j => Value.int .i64 (f j))) (fun _ _ i _ => n - (intOf i).toNat)
  case atStart => exact ⟨0, _, Nat.zero_le _, rfl, rfl, rfl, Below.refl _ _, World.ownsRow_nil _ _ _ _⟩
  obtain ⟨k, v, hk, rfl, rfl, rfl, bel, own⟩ := hrel
  have Own := Lib.hid own
  have Bel := Lib.hid bel
  clear own bel
  by_cases hlt : k < n
  case pos =>
    obtain ⟨b, off, rfl, hbw, hbc⟩ := HA.out (by omega)
    have cb : wr.cell? ⟨b, off + k, none⟩ = some (.int .u8 (f k)) := by rw [Bel.out.cell (p := ⟨b, off + k, none⟩) hbw]; exact hbc k (by omega)
    have i1 : k + 1 ≤ maxLen := by unfold maxLen; omega
    have i2 : (k + 1) * 8 ≤ 140737488355328 := by omega
    have I1 := Lib.hid i1
    have I2 := Lib.hid i2
    have Z := Lib.hid Bel.out.size
    have hfk := HF.out k
    have hsb := SB.out k
    have hsb2 : sumTo f (k + 1) = sumTo f k + f k := rfl
    clear hbc i1 i2
    go_wp2_with (at_builtin; refine wpList_app1 _ rfl _ _ 36 rfl w.heap.size 3 (.int .i64 0) 8 Try.underlying36 info3 rfl _ _ _ rfl (Own.out.alloc _) wr.heap.size _ rfl (cell1_new _ _ _) rfl I1.out I2.out (Nat.le_trans Z.out (size_alloc_le _ _)) ?_; intro v' w12 own' bel'; have cb : w12.cell? ⟨b, off + k, none⟩ = some (.int .u8 (f k)) := (by rw [bel'.cell (p := ⟨b, off + k, none⟩) hbw, World.cell?_alloc_past _ _ _ (by have := Z.out; show b < wr.heap.size; omega)]; exact cb); have Own' := Lib.hid own'; have Bel' := Lib.hid (Bel.out.trans (below_alloc1 Z.out bel')); clear own' bel')
    exact ⟨⟨k + 1, _, by omega, by go_num, by rw [hsb2], rfl, Bel'.out, by rw [lst_succ]; exact Own'.out⟩, by simp [intOf]; omega⟩
  obtain rfl : k = n := by omega
  have K : KW w wr v (lst f k) := ⟨Bel.out, ints_lst Own.out (by omega)⟩
  have hv0 : ∃ a cap, v = .slice a (lst f k).length cap := by
    rw [lst_len]
    rcases Own.out.2 with ⟨e, h0⟩ | ⟨g, cap, cur, e, _⟩
    · exact ⟨_, _, by rw [h0]; exact e⟩
    · exact ⟨_, _, e⟩
  have hv1 : v = .slice none 0 0 ∨ ∃ ad len cap, v = .slice (some ad) len cap := by
    rcases Own.out.2 with ⟨e, _⟩ | ⟨g, cap, cur, e, _⟩
    · exact .inl e
    · exact .inr ⟨_, _, _, e⟩
  have HV0 := Lib.hid hv0
  have HV1 := Lib.hid hv1
  have hvl : ∃ a cap, v = .slice a k cap := by rw [lst_len] at hv0; exact hv0
  obtain ⟨av, capv, rfl⟩ := hvl
  have hsb := SB.out k
  clear hv0 hv1 Own Bel HA
  go_wp2_with fail
  refine (S1.out _ _ K.i0).mono ?_
  rintro e w3 ⟨s1, f1, rfl, F1, o1, bel⟩
  rw [lst_len] at F1 o1
  obtain ⟨sa, sc, rfl⟩ := floats_form F1
  have O1 := Lib.hid o1
  clear o1
  have K_ := K.step bel
  clear K bel
  have K := K_; clear K_
  go_wp2_with fail
  refine (Q1.out _ _ K.i0).mono ?_
  rintro e w4 ⟨rfl, bel⟩
  have K_ := K.step bel
  have F1_ := F1.below bel
  clear K F1 bel
  have K := K_; clear K_
  have F1 := F1_; clear F1_
  go_wp2_with fail
  have P := Blk.new w4 [.complex .f64 x0 y0, .complex .f64 x1 y1, .complex .f64 x2 y2, .complex .f64 x3 y3] 25
  have bel := bel_alloc w4 (.cells #[.complex .f64 x0 y0, .complex .f64 x1 y1, .complex .f64 x2 y2, .complex .f64 x3 y3] 25)
  have K_ := K.step bel
  have F1_ := F1.below bel
  clear K F1 bel
  have K := K_; clear K_
  have F1 := F1_; clear F1_
  generalize w4.alloc (.cells #[.complex .f64 x0 y0, .complex .f64 x1 y1, .complex .f64 x2 y2, .complex .f64 x3 y3] 25) = w5 at *
  generalize w4.heap.size = p at *
  have KK := Lib.hid K
  have FF := Lib.hid F1
  have PP := Lib.hid P
  clear K F1 P
  go_loopw [14] (fun i wr => ∃ (j d : Nat), j ≤ k ∧ i = .int .i64 j ∧ wr = w5.drewN d) (fun i _ => k - (intOf i).toNat)
  case atStart => exact ⟨0, 0, Nat.zero_le _, rfl, rfl⟩
  obtain ⟨j, d, hj, rfl, hw⟩ := hrel
  have Hw := Lib.hid hw
  by_cases hlt : j < k
  case pos =>
    obtain ⟨b, off, hav, _, hcb⟩ := ints_cells KK.out.i0 (by omega)
    obtain ⟨b1, off1, hsa, _, hcb1⟩ := floats_cells FF.out (by omega)
    have cb : wr.cell? ⟨b, off + j, none⟩ = some (.int .i64 (f j)) := by rw [hw]; exact hcb j hlt
    have cb1 : wr.cell? ⟨b1, off1 + j, none⟩ = some (.float .f64 (f1 j)) := by rw [hw]; exact hcb1 j hlt
    have oj := O1.out j hlt
    rw [lst_get f k j hlt] at oj
    have on := neq_false oj
    have hl2 : (j : Int) < (k : Int) := by omega
    have hl3 : (0 : Int) ≤ (j : Int) := by omega
    subst hav hsa
    clear hw hcb hcb1 oj
    go_wp2_with fail
    go_quiet (fail)
    go_wp2_with fail
    go_roundw
    case rel => exact ⟨j + 1, d + nq, by omega, by go_num, by rw [Hw.out]; simp⟩
    case measure => simp [intOf]; omega
  obtain rfl : k = j := by omega
  have bel := drewN_bel ⟨d, hw⟩
  have K := KK.out.step bel
  have P := PP.out.below bel
  clear bel hw Hw KK PP FF O1 S1
  have srcm := Lib.hid (ints_src (K.i0.below (bel_alloc wr (.cells #[.int .i64 0] 3))) HV0.out HV1.out)
  have om : ∀ u ∈ (lst f k).map (Value.int .i64), u.oneCell' = true := by intro u hu; obtain ⟨x, _, rfl⟩ := List.mem_map.1 hu; rfl
  have Om := Lib.hid om
  have b1 : 1 + ((lst f k).map (Value.int .i64)).length ≤ maxLen := by unfold maxLen; rw [List.length_map, lst_len]; omega
  have b2 : (1 + ((lst f k).map (Value.int .i64)).length) * 8 ≤ 140737488355328 := by rw [List.length_map, lst_len]; omega
  have B1 := Lib.hid b1
  have B2 := Lib.hid b2
  have KK := Lib.hid K
  have PP := Lib.hid P
  clear om b1 b2 K P
  go_wp2_with (at_builtin; refine wpList_appSrc _ rfl _ _ 36 rfl wr.heap.size 3 (.int .i64 0) 8 Try.underlying36 info3 rfl _ _ _ rfl (own_lit wr (.int .i64 0)) _ _ rfl srcm.out Om.out B1.out B2.out (size_alloc_le _ _) ?_; intro v' w6 own' bel'; have bel := (below_alloc1 (Nat.le_refl _) bel'); have IM : Ints w6 v' (0 :: lst f k) := ints_of_vals (own_vals own' (by have := B1.out; unfold maxLen at this; omega)); clear own' bel')
  have K := KK.out.step bel
  have P := PP.out.below bel
  clear bel KK PP srcm Om B1 B2
  refine (Q2.out _ _ IM).mono ?_
  rintro e w7 ⟨rfl, bel⟩
  clear IM
  have K_ := K.step bel
  have P_ := P.below bel
  clear K P bel
  have K := K_; clear K_
  have P := P_; clear P_
  have hpz := P.2.2
  have p1 : w7.cell? ⟨p, 1, none⟩ = some (.complex .f64 x1 y1) := P.1 1 (by simp)
  have p2 : w7.cell? ⟨p, 2, none⟩ = some (.complex .f64 x2 y2) := P.1 2 (by simp)
  have KK := Lib.hid K
  clear K P Q1 Q2
  go_wp2_with fail
  have K := KK.out.step (bel_alloc w7 (.cells #[.complex .f64 u0 r0, .complex .f64 u1 r1, .complex .f64 u2 r2, .complex .f64 u3 r3] 25))
  clear KK p1 p2
  generalize w7.alloc (.cells #[.complex .f64 u0 r0, .complex .f64 u1 r1, .complex .f64 u2 r2, .complex .f64 u3 r3] 25) = w8 at *
  have KK := Lib.hid K
  clear K
  go_loopw [17, 18] (fun tv i wr => ∃ (j : Nat) (v2 : Value), j ≤ m + 1 ∧ i = .int .i64 j ∧ v2 = tv ∧ Below w8.heap.size w8 wr ∧ wr.ownsRow w8.heap.size 3 1 v2 j ((List.range j).map fun _ => Value.int .i64 (c : Int))) (fun _ i _ => m + 1 - (intOf i).toNat)
  case atStart => exact ⟨0, _, Nat.zero_le _, rfl, rfl, Below.refl _ _, World.ownsRow_nil _ _ _ _⟩
  obtain ⟨j, v2, hj, rfl, rfl, bel, own⟩ := hrel
  have Own := Lib.hid own
  have Bel := Lib.hid bel
  clear own bel
  by_cases hlt : j ≤ m
  case pos =>
    have i1 : j + 1 ≤ maxLen := by unfold maxLen; omega
    have i2 : (j + 1) * 8 ≤ 140737488355328 := by omega
    have I1 := Lib.hid i1
    have I2 := Lib.hid i2
    have Z := Lib.hid Bel.out.size
    clear i1 i2
    go_wp2_with (at_builtin; refine wpList_app1 _ rfl _ _ 36 rfl w8.heap.size 3 (.int .i64 0) 8 Try.underlying36 info3 rfl _ _ _ rfl (Own.out.alloc _) wr.heap.size _ rfl (cell1_new _ _ _) rfl I1.out I2.out (Nat.le_trans Z.out (size_alloc_le _ _)) ?_; intro v' w12 own' bel'; have Own' := Lib.hid own'; have Bel' := Lib.hid (Bel.out.trans (below_alloc1 Z.out bel')); clear own' bel')
    exact ⟨⟨j + 1, _, by omega, by go_num, rfl, Bel'.out, by rw [lst_succ (fun _ => (c : Int))]; exact Own'.out⟩, by simp [intOf]; omega⟩
  obtain rfl : j = m + 1 := by omega
  have I2 : Ints wr v2 (List.replicate (m + 1) (c : Int)) := by rw [← rep_row]; exact ints_lst Own.out (by omega)
  have hvl : ∃ a cap, v2 = .slice a (m + 1) cap := by
    rcases Own.out.2 with ⟨e, h0⟩ | ⟨g, cap, cur, e, _⟩
    · omega
    · exact ⟨_, _, e⟩
  obtain ⟨av2, capv2, rfl⟩ := hvl
  have K : KW w wr (.slice av2 (m + 1) capv2) (List.replicate (m + 1) (c : Int)) := ⟨below_upto KK.out.below Bel.out, I2⟩
  clear I2 Own Bel KK
  go_wp2_with fail
  refine (ST.out _ _ K.i0).mono ?_
  rintro e w' ⟨rfl, rfl⟩
  go_wp2_with fail
  refine (S5.out _ _ K.i0).mono ?_
  rintro e w9 ⟨s5, f5, rfl, F5, o5, bel⟩
  obtain ⟨sa5, sc5, rfl⟩ := floats_form F5
  have O5 := Lib.hid o5
  have K_ := Lib.hid (K.step bel).below
  have F5_ := Lib.hid F5
  clear o5 K bel F5 ST S5
  go_wp2_with fail
  go_loop [24] (fun i => ∃ (j : Nat), j ≤ m + 1 ∧ i = .int .i64 j) (fun i => m + 1 - (intOf i).toNat)
  case atStart => exact ⟨0, Nat.zero_le _, rfl⟩
  obtain ⟨j, hj, rfl⟩ := hrel
  by_cases hlt : j < m + 1
  case pos =>
    obtain ⟨b5, off5, rfl, _, hcb⟩ := floats_cells F5_.out (by omega)
    have cb := hcb j hlt
    have on := neq_false (O5.out j hlt)
    clear hcb
    go_wp2_with fail
    go_round
    case rel => exact ⟨j + 1, by omega, by go_num⟩
    case measure => simp [intOf]; omega
  obtain rfl : j = m + 1 := by omega
  go_wp2_with fail
  go_ret
  exact ⟨rfl, K_.out⟩

set_option maxRecDepth 100000 in
set_option maxHeartbeats 8000000 in
theorem whole_long (a0 : Option Addr) (len cap0 : Nat) (f : Nat → Int) (c m n : Nat) (w : World) (hD1 : n < len) (hD2 : 500 ≤ n) (hn : n ≤ 500) (hlm : len ≤ 9223372036854775807) (hc : c ≤ 255) (hm : m ≤ 255) (hf : ∀ j, 0 ≤ f j ∧ f j ≤ 255)
    (hA : 0 < len → ∃ b off, a0 = some ⟨b, off, none⟩ ∧ b < w.heap.size ∧ ∀ j, j < len → w.cell? ⟨b, off + j, none⟩ = some (.int .u8 (f j))) :
    Calls Try.prog 7 #[.slice a0 len cap0, .int .u8 (c : Int), .int .u8 (m : Int)] w fun e w' => e = .returned (.bool true) ∧ Below w.heap.size w w' := by
  obtain ⟨x0, y0, x1, y1, x2, y2, x3, y3, u0, r0, u1, r1, u2, r2, u3, r3, e0, e1, e2, e3, e4, e5, e6, e7, hq, hmv⟩ := quarters_said f n hf hn
  have Q1 := Lib.hid hq
  have Q2 := Lib.hid hmv
  have HA := Lib.hid hA
  have HF := Lib.hid hf
  have SB := Lib.hid (sum_bounds hf)
  have S1 := Lib.hid (fun v w hv => whole_smooth1 (lst f n) (lst_mem hf) (by rw [lst_len]; omega) v w hv)
  have ST := Lib.hid (fun v w hv => whole_stats c (m + 1) hc (by omega) (by omega) v w hv)
  have S5 := Lib.hid (fun v w hv => whole_smooth5 c (m + 1) hc (by omega) v w hv)
  have cc := neq_false (int_order (c : Int))
  have zz : (FloatKind.f64.format.order 0 0 != some .eq) = false := by decide
  clear hq hmv hA hf
  go_enter Try.func7, Try.ntmps7
  go_wp2_with fail
  go_loopw [7, 8, 9] (fun tv sv i wr => ∃ (k : Nat) (v : Value), k ≤ n ∧ i = .int .i64 k ∧ sv = .int .i64 (sumTo f k) ∧ v = tv ∧ Below w.heap.size w wr ∧ wr.ownsRow w.heap.size 3 1 v k ((List.range k).map fun j => Value.int .i64 (f j))) (fun _ _ i _ => n - (intOf i).toNat)
  case atStart => exact ⟨0, _, Nat.zero_le _, rfl, rfl, rfl, Below.refl _ _, World.ownsRow_nil _ _ _ _⟩
  obtain ⟨k, v, hk, rfl, rfl, rfl, bel, own⟩ := hrel
  have Own := Lib.hid own
  have Bel := Lib.hid bel
  clear own bel
  by_cases hlt : k < n
  case pos =>
    obtain ⟨b, off, rfl, hbw, hbc⟩ := HA.out (by omega)
    have cb : wr.cell? ⟨b, off + k, none⟩ = some (.int .u8 (f k)) := by rw [Bel.out.cell (p := ⟨b, off + k, none⟩) hbw]; exact hbc k (by omega)
    have i1 : k + 1 ≤ maxLen := by unfold maxLen; omega
    have i2 : (k + 1) * 8 ≤ 140737488355328 := by omega
    have I1 := Lib.hid i1
    have I2 := Lib.hid i2
    have Z := Lib.hid Bel.out.size
    have hfk := HF.out k
    have hsb := SB.out k
    have hsb2 : sumTo f (k + 1) = sumTo f k + f k := rfl
    clear hbc i1 i2
    go_wp2_with (at_builtin; refine wpList_app1 _ rfl _ _ 36 rfl w.heap.size 3 (.int .i64 0) 8 Try.underlying36 info3 rfl _ _ _ rfl (Own.out.alloc _) wr.heap.size _ rfl (cell1_new _ _ _) rfl I1.out I2.out (Nat.le_trans Z.out (size_alloc_le _ _)) ?_; intro v' w12 own' bel'; have cb : w12.cell? ⟨b, off + k, none⟩ = some (.int .u8 (f k)) := (by rw [bel'.cell (p := ⟨b, off + k, none⟩) hbw, World.cell?_alloc_past _ _ _ (by have := Z.out; show b < wr.heap.size; omega)]; exact cb); have Own' := Lib.hid own'; have Bel' := Lib.hid (Bel.out.trans (below_alloc1 Z.out bel')); clear own' bel')
    exact ⟨⟨k + 1, _, by omega, by go_num, by rw [hsb2], rfl, Bel'.out, by rw [lst_succ]; exact Own'.out⟩, by simp [intOf]; omega⟩
  obtain rfl : k = n := by omega
  have K : KW w wr v (lst f k) := ⟨Bel.out, ints_lst Own.out (by omega)⟩
  have hv0 : ∃ a cap, v = .slice a (lst f k).length cap := by
    rw [lst_len]
    rcases Own.out.2 with ⟨e, h0⟩ | ⟨g, cap, cur, e, _⟩
    · exact ⟨_, _, by rw [h0]; exact e⟩
    · exact ⟨_, _, e⟩
  have hv1 : v = .slice none 0 0 ∨ ∃ ad len cap, v = .slice (some ad) len cap := by
    rcases Own.out.2 with ⟨e, _⟩ | ⟨g, cap, cur, e, _⟩
    · exact .inl e
    · exact .inr ⟨_, _, _, e⟩
  have HV0 := Lib.hid hv0
  have HV1 := Lib.hid hv1
  have hvl : ∃ a cap, v = .slice a k cap := by rw [lst_len] at hv0; exact hv0
  obtain ⟨av, capv, rfl⟩ := hvl
  have hsb := SB.out k
  clear hv0 hv1 Own Bel HA
  go_wp2_with fail
  refine (S1.out _ _ K.i0).mono ?_
  rintro e w3 ⟨s1, f1, rfl, F1, o1, bel⟩
  rw [lst_len] at F1 o1
  obtain ⟨sa, sc, rfl⟩ := floats_form F1
  have O1 := Lib.hid o1
  clear o1
  have K_ := K.step bel
  clear K bel
  have K := K_; clear K_
  go_wp2_with fail
  refine (Q1.out _ _ K.i0).mono ?_
  rintro e w4 ⟨rfl, bel⟩
  have K_ := K.step bel
  have F1_ := F1.below bel
  clear K F1 bel
  have K := K_; clear K_
  have F1 := F1_; clear F1_
  go_wp2_with fail
  have P := Blk.new w4 [.complex .f64 x0 y0, .complex .f64 x1 y1, .complex .f64 x2 y2, .complex .f64 x3 y3] 25
  have bel := bel_alloc w4 (.cells #[.complex .f64 x0 y0, .complex .f64 x1 y1, .complex .f64 x2 y2, .complex .f64 x3 y3] 25)
  have K_ := K.step bel
  have F1_ := F1.below bel
  clear K F1 bel
  have K := K_; clear K_
  have F1 := F1_; clear F1_
  generalize w4.alloc (.cells #[.complex .f64 x0 y0, .complex .f64 x1 y1, .complex .f64 x2 y2, .complex .f64 x3 y3] 25) = w5 at *
  generalize w4.heap.size = p at *
  have KK := Lib.hid K
  have FF := Lib.hid F1
  have PP := Lib.hid P
  clear K F1 P
  go_loopw [14] (fun i wr => ∃ (j d : Nat), j ≤ k ∧ i = .int .i64 j ∧ wr = w5.drewN d) (fun i _ => k - (intOf i).toNat)
  case atStart => exact ⟨0, 0, Nat.zero_le _, rfl, rfl⟩
  obtain ⟨j, d, hj, rfl, hw⟩ := hrel
  have Hw := Lib.hid hw
  by_cases hlt : j < k
  case pos =>
    obtain ⟨b, off, hav, _, hcb⟩ := ints_cells KK.out.i0 (by omega)
    obtain ⟨b1, off1, hsa, _, hcb1⟩ := floats_cells FF.out (by omega)
    have cb : wr.cell? ⟨b, off + j, none⟩ = some (.int .i64 (f j)) := by rw [hw]; exact hcb j hlt
    have cb1 : wr.cell? ⟨b1, off1 + j, none⟩ = some (.float .f64 (f1 j)) := by rw [hw]; exact hcb1 j hlt
    have oj := O1.out j hlt
    rw [lst_get f k j hlt] at oj
    have on := neq_false oj
    have hl2 : (j : Int) < (k : Int) := by omega
    have hl3 : (0 : Int) ≤ (j : Int) := by omega
    subst hav hsa
    clear hw hcb hcb1 oj
    go_wp2_with fail
    go_quiet (fail)
    go_wp2_with fail
    go_roundw
    case rel => exact ⟨j + 1, d + nq, by omega, by go_num, by rw [Hw.out]; simp⟩
    case measure => simp [intOf]; omega
  obtain rfl : k = j := by omega
  have bel := drewN_bel ⟨d, hw⟩
  have K := KK.out.step bel
  have P := PP.out.below bel
  clear bel hw Hw KK PP FF O1 S1
  have srcm := Lib.hid (ints_src (K.i0.below (bel_alloc wr (.cells #[.int .i64 0] 3))) HV0.out HV1.out)
  have om : ∀ u ∈ (lst f k).map (Value.int .i64), u.oneCell' = true := by intro u hu; obtain ⟨x, _, rfl⟩ := List.mem_map.1 hu; rfl
  have Om := Lib.hid om
  have b1 : 1 + ((lst f k).map (Value.int .i64)).length ≤ maxLen := by unfold maxLen; rw [List.length_map, lst_len]; omega
  have b2 : (1 + ((lst f k).map (Value.int .i64)).length) * 8 ≤ 140737488355328 := by rw [List.length_map, lst_len]; omega
  have B1 := Lib.hid b1
  have B2 := Lib.hid b2
  have KK := Lib.hid K
  have PP := Lib.hid P
  clear om b1 b2 K P
  go_wp2_with (at_builtin; refine wpList_appSrc _ rfl _ _ 36 rfl wr.heap.size 3 (.int .i64 0) 8 Try.underlying36 info3 rfl _ _ _ rfl (own_lit wr (.int .i64 0)) _ _ rfl srcm.out Om.out B1.out B2.out (size_alloc_le _ _) ?_; intro v' w6 own' bel'; have bel := (below_alloc1 (Nat.le_refl _) bel'); have IM : Ints w6 v' (0 :: lst f k) := ints_of_vals (own_vals own' (by have := B1.out; unfold maxLen at this; omega)); clear own' bel')
  have K := KK.out.step bel
  have P := PP.out.below bel
  clear bel KK PP srcm Om B1 B2
  refine (Q2.out _ _ IM).mono ?_
  rintro e w7 ⟨rfl, bel⟩
  clear IM
  have K_ := K.step bel
  have P_ := P.below bel
  clear K P bel
  have K := K_; clear K_
  have P := P_; clear P_
  have hpz := P.2.2
  have p1 : w7.cell? ⟨p, 1, none⟩ = some (.complex .f64 x1 y1) := P.1 1 (by simp)
  have p2 : w7.cell? ⟨p, 2, none⟩ = some (.complex .f64 x2 y2) := P.1 2 (by simp)
  have KK := Lib.hid K
  clear K P Q1 Q2
  go_wp2_with fail
  have K := KK.out.step (bel_alloc w7 (.cells #[.complex .f64 u0 r0, .complex .f64 u1 r1, .complex .f64 u2 r2, .complex .f64 u3 r3] 25))
  clear KK p1 p2
  generalize w7.alloc (.cells #[.complex .f64 u0 r0, .complex .f64 u1 r1, .complex .f64 u2 r2, .complex .f64 u3 r3] 25) = w8 at *
  have KK := Lib.hid K
  clear K
  go_loopw [17, 18] (fun tv i wr => ∃ (j : Nat) (v2 : Value), j ≤ m + 1 ∧ i = .int .i64 j ∧ v2 = tv ∧ Below w8.heap.size w8 wr ∧ wr.ownsRow w8.heap.size 3 1 v2 j ((List.range j).map fun _ => Value.int .i64 (c : Int))) (fun _ i _ => m + 1 - (intOf i).toNat)
  case atStart => exact ⟨0, _, Nat.zero_le _, rfl, rfl, Below.refl _ _, World.ownsRow_nil _ _ _ _⟩
  obtain ⟨j, v2, hj, rfl, rfl, bel, own⟩ := hrel
  have Own := Lib.hid own
  have Bel := Lib.hid bel
  clear own bel
  by_cases hlt : j ≤ m
  case pos =>
    have i1 : j + 1 ≤ maxLen := by unfold maxLen; omega
    have i2 : (j + 1) * 8 ≤ 140737488355328 := by omega
    have I1 := Lib.hid i1
    have I2 := Lib.hid i2
    have Z := Lib.hid Bel.out.size
    clear i1 i2
    go_wp2_with (at_builtin; refine wpList_app1 _ rfl _ _ 36 rfl w8.heap.size 3 (.int .i64 0) 8 Try.underlying36 info3 rfl _ _ _ rfl (Own.out.alloc _) wr.heap.size _ rfl (cell1_new _ _ _) rfl I1.out I2.out (Nat.le_trans Z.out (size_alloc_le _ _)) ?_; intro v' w12 own' bel'; have Own' := Lib.hid own'; have Bel' := Lib.hid (Bel.out.trans (below_alloc1 Z.out bel')); clear own' bel')
    exact ⟨⟨j + 1, _, by omega, by go_num, rfl, Bel'.out, by rw [lst_succ (fun _ => (c : Int))]; exact Own'.out⟩, by simp [intOf]; omega⟩
  obtain rfl : j = m + 1 := by omega
  have I2 : Ints wr v2 (List.replicate (m + 1) (c : Int)) := by rw [← rep_row]; exact ints_lst Own.out (by omega)
  have hvl : ∃ a cap, v2 = .slice a (m + 1) cap := by
    rcases Own.out.2 with ⟨e, h0⟩ | ⟨g, cap, cur, e, _⟩
    · omega
    · exact ⟨_, _, e⟩
  obtain ⟨av2, capv2, rfl⟩ := hvl
  have K : KW w wr (.slice av2 (m + 1) capv2) (List.replicate (m + 1) (c : Int)) := ⟨below_upto KK.out.below Bel.out, I2⟩
  clear I2 Own Bel KK
  go_wp2_with fail
  refine (ST.out _ _ K.i0).mono ?_
  rintro e w' ⟨rfl, rfl⟩
  go_wp2_with fail
  refine (S5.out _ _ K.i0).mono ?_
  rintro e w9 ⟨s5, f5, rfl, F5, o5, bel⟩
  obtain ⟨sa5, sc5, rfl⟩ := floats_form F5
  have O5 := Lib.hid o5
  have K_ := Lib.hid (K.step bel).below
  have F5_ := Lib.hid F5
  clear o5 K bel F5 ST S5
  go_wp2_with fail
  go_loop [24] (fun i => ∃ (j : Nat), j ≤ m + 1 ∧ i = .int .i64 j) (fun i => m + 1 - (intOf i).toNat)
  case atStart => exact ⟨0, Nat.zero_le _, rfl⟩
  obtain ⟨j, hj, rfl⟩ := hrel
  by_cases hlt : j < m + 1
  case pos =>
    obtain ⟨b5, off5, rfl, _, hcb⟩ := floats_cells F5_.out (by omega)
    have cb := hcb j hlt
    have on := neq_false (O5.out j hlt)
    clear hcb
    go_wp2_with fail
    go_round
    case rel => exact ⟨j + 1, by omega, by go_num⟩
    case measure => simp [intOf]; omega
  obtain rfl : j = m + 1 := by omega
  go_wp2_with fail
  go_ret
  exact ⟨rfl, K_.out⟩
end Go.Proofs.Ytomcdnkafgmleaa
