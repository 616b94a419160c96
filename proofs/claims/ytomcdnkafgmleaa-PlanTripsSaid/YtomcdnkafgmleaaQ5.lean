/- larderref17.Quarters comes to the same. -/
import Derived.Test.YtomcdnkafgmleaaQ4
namespace Go.Proofs.Ytomcdnkafgmleaa
open Go.RowKit

/-- the document's four -/
def quartersR (f : Nat → Int) (n : Nat) : Value := .agg #[.float .f64 (floatOfInt .f64 (reT f 0 n)), .float .f64 (floatOfInt .f64 (imT f 0 n)), .float .f64 (floatOfInt .f64 (reT f 1 n)), .float .f64 (floatOfInt .f64 (imT f 1 n)),
  .float .f64 (floatOfInt .f64 (reT f 2 n)), .float .f64 (floatOfInt .f64 (imT f 2 n)), .float .f64 (floatOfInt .f64 (reT f 3 n)), .float .f64 (floatOfInt .f64 (imT f 3 n))]

theorem quartersref_stop (v : Value) (c : Int) (w : World) (hq : ∀ w1, Below w.heap.size w w1 → Calls Try.prog 50 #[v] w1 fun e w' => e = .returned (.int .i64 c) ∧ w1 = w') (hc : (c != 0) = true) :
    Calls Try.prog 27 #[v] w fun e w' => e = .returned (.tuple #[.agg #[.float .f64 0, .float .f64 0, .float .f64 0, .float .f64 0, .float .f64 0, .float .f64 0, .float .f64 0, .float .f64 0], .int .i64 c]) ∧ Below w.heap.size w w' := by
  have Q := Lib.hid hq
  clear hq
  go_enter Try.func27, Try.ntmps27
  go_wp2_with fail
  refine (Q.out _ (bel2 _ _ _)).mono ?_
  rintro e w' ⟨rfl, rfl⟩
  go_wp2_with fail
  refine bodyPost_ret (v := .tuple #[.agg #[.float .f64 0, .float .f64 0, .float .f64 0, .float .f64 0, .float .f64 0, .float .f64 0, .float .f64 0, .float .f64 0], .int .i64 c]) (by simp [results, Try.results27, go_sem]) rfl ⟨rfl, ?_⟩
  exact bel2 _ _ _

set_option maxRecDepth 100000 in
set_option maxHeartbeats 4000000 in
theorem quartersref_ok (b off len cap : Nat) (f : Nat → Int) (w : World) (hl : len ≤ 4096) (hb : 0 < len → b < w.heap.size) (hc : ∀ i, i < len → w.cell? ⟨b, off + i, none⟩ = some (.int .i64 (f i))) (hok : ∀ i, i < len → 0 ≤ f i ∧ f i ≤ 1099511627776)
    (hq : ∀ w1, Below w.heap.size w w1 → Calls Try.prog 50 #[.slice (some ⟨b, off, none⟩) len cap] w1 fun e w' => e = .returned (.int .i64 0) ∧ w1 = w') :
    Calls Try.prog 27 #[.slice (some ⟨b, off, none⟩) len cap] w fun e w' => e = .returned (.tuple #[quartersR f len, .int .i64 0]) ∧ Below w.heap.size w w' := by
  have Q := Lib.hid hq
  have Hb := Lib.hid hb
  have Hc := Lib.hid hc
  have Hok := Lib.hid hok
  have Bd := Lib.hid (T_bd f len hok)
  clear hq hc hok hb
  go_enter Try.func27, Try.ntmps27
  go_wp2_with fail
  refine (Q.out _ (bel2 _ _ _)).mono ?_
  rintro e w' ⟨rfl, rfl⟩
  go_wp2_with fail
  refine wp_loop_rounds 5 ?_

  rw [rounds_succ]
  go_wp2_with fail
  go_loop [7, 8, 9] (fun re im i => ∃ k : Nat, k ≤ len ∧ i = .int .i64 k ∧ re = .int .i64 (reT f 0 k) ∧ im = .int .i64 (imT f 0 k)) (fun _ _ i => len - (intOf i).toNat)
  case atStart => exact ⟨0, Nat.zero_le _, rfl, rfl, rfl⟩
  obtain ⟨k, hk, rfl, rfl, rfl⟩ := hrel
  obtain ⟨⟨r1, r2⟩, ⟨i1, i2⟩⟩ := Bd.out 0 k hk
  by_cases hlt : k < len
  case pos =>
      have g1 := (Hok.out k hlt).1
      have g2 := (Hok.out k hlt).2
      have hbw := Hb.out (by omega)
      have c := Hc.out k hlt
      have e0 : reT f 0 (k + 1) = reT f 0 k + f k := by simp only [reT]; rw [if_pos (by omega)]
      have e1 : imT f 0 (k + 1) = imT f 0 k := by simp only [imT]; rw [if_neg (by omega), if_neg (by omega)]
      have E := Lib.hid (And.intro e0 e1)
      clear e0 e1
      go_wp2_with fail
      go_round
      case rel => exact ⟨k + 1, by omega, by go_num, by rw [E.out.1], by rw [E.out.2]⟩
      case measure => simp [intOf]; omega
  obtain rfl : len = k := by omega
  clear hlt hk r1 r2 i1 i2
  go_wp2_with fail
  rw [rounds_succ]
  go_wp2_with fail
  go_loop [7, 8, 9] (fun re im i => ∃ k : Nat, k ≤ len ∧ i = .int .i64 k ∧ re = .int .i64 (reT f 1 k) ∧ im = .int .i64 (imT f 1 k)) (fun _ _ i => len - (intOf i).toNat)
  case atStart => exact ⟨0, Nat.zero_le _, rfl, rfl, rfl⟩
  obtain ⟨k, hk, rfl, rfl, rfl⟩ := hrel
  obtain ⟨⟨r1, r2⟩, ⟨i1, i2⟩⟩ := Bd.out 1 k hk
  by_cases hlt : k < len
  case pos =>
      have g1 := (Hok.out k hlt).1
      have g2 := (Hok.out k hlt).2
      have hbw := Hb.out (by omega)
      have c := Hc.out k hlt
      rcases (by omega : 1 * k % 4 = 0 ∨ 1 * k % 4 = 1 ∨ 1 * k % 4 = 2 ∨ 1 * k % 4 = 3) with h | h | h | h
      · have h' : ((k : Nat) : Int) % 4 = 0 := by omega
        have e0 : reT f 1 (k + 1) = reT f 1 k + f k := by simp only [reT]; rw [if_pos (by omega)]
        have e1 : imT f 1 (k + 1) = imT f 1 k := by simp only [imT]; rw [if_neg (by omega), if_neg (by omega)]
        have E := Lib.hid (And.intro e0 e1)
        clear e0 e1 h
        go_wp2_with fail
        go_round
        case rel => exact ⟨k + 1, by omega, by go_num, by rw [E.out.1], by rw [E.out.2]⟩
        case measure => simp [intOf]; omega
      · have h' : ((k : Nat) : Int) % 4 = 1 := by omega
        have e0 : reT f 1 (k + 1) = reT f 1 k := by simp only [reT]; rw [if_neg (by omega), if_neg (by omega)]
        have e1 : imT f 1 (k + 1) = imT f 1 k - f k := by simp only [imT]; rw [if_pos (by omega)]
        have E := Lib.hid (And.intro e0 e1)
        clear e0 e1 h
        go_wp2_with fail
        go_round
        case rel => exact ⟨k + 1, by omega, by go_num, by rw [E.out.1], by rw [E.out.2]⟩
        case measure => simp [intOf]; omega
      · have h' : ((k : Nat) : Int) % 4 = 2 := by omega
        have e0 : reT f 1 (k + 1) = reT f 1 k - f k := by simp only [reT]; rw [if_neg (by omega), if_pos (by omega)]
        have e1 : imT f 1 (k + 1) = imT f 1 k := by simp only [imT]; rw [if_neg (by omega), if_neg (by omega)]
        have E := Lib.hid (And.intro e0 e1)
        clear e0 e1 h
        go_wp2_with fail
        go_round
        case rel => exact ⟨k + 1, by omega, by go_num, by rw [E.out.1], by rw [E.out.2]⟩
        case measure => simp [intOf]; omega
      · have h' : ((k : Nat) : Int) % 4 = 3 := by omega
        have e0 : reT f 1 (k + 1) = reT f 1 k := by simp only [reT]; rw [if_neg (by omega), if_neg (by omega)]
        have e1 : imT f 1 (k + 1) = imT f 1 k + f k := by simp only [imT]; rw [if_neg (by omega), if_pos (by omega)]
        have E := Lib.hid (And.intro e0 e1)
        clear e0 e1 h
        go_wp2_with fail
        go_round
        case rel => exact ⟨k + 1, by omega, by go_num, by rw [E.out.1], by rw [E.out.2]⟩
        case measure => simp [intOf]; omega
  obtain rfl : len = k := by omega
  clear hlt hk r1 r2 i1 i2
  go_wp2_with fail
  rw [rounds_succ]
  go_wp2_with fail
  go_loop [7, 8, 9] (fun re im i => ∃ k : Nat, k ≤ len ∧ i = .int .i64 k ∧ re = .int .i64 (reT f 2 k) ∧ im = .int .i64 (imT f 2 k)) (fun _ _ i => len - (intOf i).toNat)
  case atStart => exact ⟨0, Nat.zero_le _, rfl, rfl, rfl⟩
  obtain ⟨k, hk, rfl, rfl, rfl⟩ := hrel
  obtain ⟨⟨r1, r2⟩, ⟨i1, i2⟩⟩ := Bd.out 2 k hk
  by_cases hlt : k < len
  case pos =>
      have g1 := (Hok.out k hlt).1
      have g2 := (Hok.out k hlt).2
      have hbw := Hb.out (by omega)
      have c := Hc.out k hlt
      rcases (by omega : 2 * k % 4 = 0 ∨ 2 * k % 4 = 1 ∨ 2 * k % 4 = 2 ∨ 2 * k % 4 = 3) with h | h | h | h
      · have h' : (2 * (k : Int)) % 4 = 0 := by omega
        have e0 : reT f 2 (k + 1) = reT f 2 k + f k := by simp only [reT]; rw [if_pos (by omega)]
        have e1 : imT f 2 (k + 1) = imT f 2 k := by simp only [imT]; rw [if_neg (by omega), if_neg (by omega)]
        have E := Lib.hid (And.intro e0 e1)
        clear e0 e1 h
        go_wp2_with fail
        go_round
        case rel => exact ⟨k + 1, by omega, by go_num, by rw [E.out.1], by rw [E.out.2]⟩
        case measure => simp [intOf]; omega
      · exfalso; omega
      · have h' : (2 * (k : Int)) % 4 = 2 := by omega
        have e0 : reT f 2 (k + 1) = reT f 2 k - f k := by simp only [reT]; rw [if_neg (by omega), if_pos (by omega)]
        have e1 : imT f 2 (k + 1) = imT f 2 k := by simp only [imT]; rw [if_neg (by omega), if_neg (by omega)]
        have E := Lib.hid (And.intro e0 e1)
        clear e0 e1 h
        go_wp2_with fail
        go_round
        case rel => exact ⟨k + 1, by omega, by go_num, by rw [E.out.1], by rw [E.out.2]⟩
        case measure => simp [intOf]; omega
      · exfalso; omega
  obtain rfl : len = k := by omega
  clear hlt hk r1 r2 i1 i2
  go_wp2_with fail
  rw [rounds_succ]
  go_wp2_with fail
  go_loop [7, 8, 9] (fun re im i => ∃ k : Nat, k ≤ len ∧ i = .int .i64 k ∧ re = .int .i64 (reT f 3 k) ∧ im = .int .i64 (imT f 3 k)) (fun _ _ i => len - (intOf i).toNat)
  case atStart => exact ⟨0, Nat.zero_le _, rfl, rfl, rfl⟩
  obtain ⟨k, hk, rfl, rfl, rfl⟩ := hrel
  obtain ⟨⟨r1, r2⟩, ⟨i1, i2⟩⟩ := Bd.out 3 k hk
  by_cases hlt : k < len
  case pos =>
      have g1 := (Hok.out k hlt).1
      have g2 := (Hok.out k hlt).2
      have hbw := Hb.out (by omega)
      have c := Hc.out k hlt
      rcases (by omega : 3 * k % 4 = 0 ∨ 3 * k % 4 = 1 ∨ 3 * k % 4 = 2 ∨ 3 * k % 4 = 3) with h | h | h | h
      · have h' : (3 * (k : Int)) % 4 = 0 := by omega
        have e0 : reT f 3 (k + 1) = reT f 3 k + f k := by simp only [reT]; rw [if_pos (by omega)]
        have e1 : imT f 3 (k + 1) = imT f 3 k := by simp only [imT]; rw [if_neg (by omega), if_neg (by omega)]
        have E := Lib.hid (And.intro e0 e1)
        clear e0 e1 h
        go_wp2_with fail
        go_round
        case rel => exact ⟨k + 1, by omega, by go_num, by rw [E.out.1], by rw [E.out.2]⟩
        case measure => simp [intOf]; omega
      · have h' : (3 * (k : Int)) % 4 = 1 := by omega
        have e0 : reT f 3 (k + 1) = reT f 3 k := by simp only [reT]; rw [if_neg (by omega), if_neg (by omega)]
        have e1 : imT f 3 (k + 1) = imT f 3 k - f k := by simp only [imT]; rw [if_pos (by omega)]
        have E := Lib.hid (And.intro e0 e1)
        clear e0 e1 h
        go_wp2_with fail
        go_round
        case rel => exact ⟨k + 1, by omega, by go_num, by rw [E.out.1], by rw [E.out.2]⟩
        case measure => simp [intOf]; omega
      · have h' : (3 * (k : Int)) % 4 = 2 := by omega
        have e0 : reT f 3 (k + 1) = reT f 3 k - f k := by simp only [reT]; rw [if_neg (by omega), if_pos (by omega)]
        have e1 : imT f 3 (k + 1) = imT f 3 k := by simp only [imT]; rw [if_neg (by omega), if_neg (by omega)]
        have E := Lib.hid (And.intro e0 e1)
        clear e0 e1 h
        go_wp2_with fail
        go_round
        case rel => exact ⟨k + 1, by omega, by go_num, by rw [E.out.1], by rw [E.out.2]⟩
        case measure => simp [intOf]; omega
      · have h' : (3 * (k : Int)) % 4 = 3 := by omega
        have e0 : reT f 3 (k + 1) = reT f 3 k := by simp only [reT]; rw [if_neg (by omega), if_neg (by omega)]
        have e1 : imT f 3 (k + 1) = imT f 3 k + f k := by simp only [imT]; rw [if_neg (by omega), if_pos (by omega)]
        have E := Lib.hid (And.intro e0 e1)
        clear e0 e1 h
        go_wp2_with fail
        go_round
        case rel => exact ⟨k + 1, by omega, by go_num, by rw [E.out.1], by rw [E.out.2]⟩
        case measure => simp [intOf]; omega
  obtain rfl : len = k := by omega
  clear hlt hk r1 r2 i1 i2
  go_wp2_with fail
  rw [rounds_succ]
  go_wp2_with fail
  refine bodyPost_ret (v := .tuple #[quartersR f len, .int .i64 0]) (by simp [results, Try.results27, go_sem, quartersR]) rfl ⟨rfl, ?_⟩
  exact bel2 _ _ _
end Go.Proofs.Ytomcdnkafgmleaa
