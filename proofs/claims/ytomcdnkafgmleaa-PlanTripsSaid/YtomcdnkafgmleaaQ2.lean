/- plan.Stats and larderref17.Stats come to the same. -/
import Derived.Test.YtomcdnkafgmleaaQ1
import Derived.Test.YtomcdnkafgmleaaF4
import Derived.Test.YtomcdnkafgmleaaS2
namespace Go.Proofs.Ytomcdnkafgmleaa
open Go.RowKit

/-- operations, where they give something -/
def dv (x y : Nat) : Nat := (Ieee.double.div x y).getD 0
def sb (x y : Nat) : Nat := (Ieee.double.sub x y).getD 0
def rt (x : Nat) : Nat := (Ieee.double.sqrt x).getD 0
/-- the sum of so many numbers; the mean; the squares; how far they lie off -/
def sumTo (f : Nat → Int) : Nat → Int
  | 0 => 0
  | k + 1 => sumTo f k + f k
def sqTo (f : Nat → Int) (m : Nat) : Nat → Nat
  | 0 => 0
  | k + 1 => ad (sqTo f m k) (sq (sb (floatOfInt .f64 (f k)) m))
def meanTo (f : Nat → Int) (n : Nat) : Nat := dv (floatOfInt .f64 (sumTo f n)) (floatOfInt .f64 (n : Int))
def devTo (f : Nat → Int) (n : Nat) : Nat := rt (dv (sqTo f (meanTo f n) n) (floatOfInt .f64 (n : Int)))

theorem sumTo_bd (f : Nat → Int) (n : Nat) (h : ∀ i, i < n → 0 ≤ f i ∧ f i ≤ 1099511627776) : ∀ k, k ≤ n → 0 ≤ sumTo f k ∧ sumTo f k ≤ 1099511627776 * (k : Int)
  | 0, _ => ⟨Int.le_refl _, Int.le_refl _⟩
  | k + 1, hk => by
    have ih := sumTo_bd f n h k (by omega)
    have := h k (by omega)
    simp only [sumTo]; omega
theorem float_nat {n : Int} (h0 : 0 ≤ n) (h : n < 9007199254740992) : floatOfInt .f64 n < 9218868437227405312 := by
  obtain ⟨k, rfl⟩ := Int.eq_ofNat_of_zero_le h0
  rw [F.ofInt_R k (by omega)]; exact (F.V_one k (by omega)).2
theorem float_ne {n : Nat} (h0 : 0 < n) (h : n < 9007199254740992) : floatOfInt .f64 (n : Int) ≠ 0 := by
  rw [F.ofInt_R n h]
  intro e
  have := (F.V_one n h).1
  rw [e, F.V_zero] at this
  have hp := Nat.mul_pos h0 F.one_pos
  omega

theorem mean_spec (f : Nat → Int) (n : Nat) (h0 : 0 < n) (hn : n ≤ 4096) (h : ∀ i, i < n → 0 ≤ f i ∧ f i ≤ 1099511627776) :
    Ieee.double.div (floatOfInt .f64 (sumTo f n)) (floatOfInt .f64 (n : Int)) = some (meanTo f n) ∧ meanTo f n ≤ 9218868437227405312 := by
  have b := sumTo_bd f n h n (Nat.le_refl _)
  obtain ⟨r, h1, h2⟩ := F.div_pos (Nat.le_of_lt (float_nat b.1 (by omega))) (float_nat (by omega : (0 : Int) ≤ (n : Int)) (by omega)) (float_ne h0 (by omega))
  unfold meanTo dv; rw [h1]; exact ⟨rfl, h2⟩
theorem sb_spec {x m : Nat} (hx : x < 9218868437227405312) (hm : m ≤ 9218868437227405312) : Ieee.double.sub x m = some (sb x m) ∧ F.NN (sb x m) := by
  obtain ⟨r, h1, h2⟩ := F.sub_num hx hm
  unfold sb; rw [h1]; exact ⟨rfl, h2⟩
theorem sq_spec {x : Nat} (h : F.NN x) : Ieee.double.mul x x = some (sq x) ∧ sq x ≤ 9218868437227405312 := by
  obtain ⟨r, h1, h2⟩ := F.mul_self_NN h
  unfold sq; rw [h1]; exact ⟨rfl, h2⟩
theorem ad_spec {x y : Nat} (hx : x ≤ 9218868437227405312) (hy : y ≤ 9218868437227405312) : Ieee.double.add x y = some (ad x y) ∧ ad x y ≤ 9218868437227405312 := by
  obtain ⟨r, h1, h2⟩ := F.add_pos hx hy
  unfold ad; rw [h1]; exact ⟨rfl, h2⟩
theorem dv_spec {x y : Nat} (hx : x ≤ 9218868437227405312) (hy : y < 9218868437227405312) (h0 : y ≠ 0) : Ieee.double.div x y = some (dv x y) ∧ dv x y ≤ 9218868437227405312 := by
  obtain ⟨r, h1, h2⟩ := F.div_pos hx hy h0
  unfold dv; rw [h1]; exact ⟨rfl, h2⟩
theorem rt_spec {x : Nat} (hx : x ≤ 9218868437227405312) : Ieee.double.sqrt x = some (rt x) ∧ rt x ≤ 9218868437227405312 := by
  obtain ⟨r, h1, h2⟩ := F.sqrt_pos hx
  unfold rt; rw [h1]; exact ⟨rfl, h2⟩
theorem sqTo_le (f : Nat → Int) (m n : Nat) (hm : m ≤ 9218868437227405312) (h : ∀ i, i < n → 0 ≤ f i ∧ f i ≤ 1099511627776) : ∀ k, k ≤ n → sqTo f m k ≤ 9218868437227405312
  | 0, _ => Nat.zero_le _
  | k + 1, hk => by
    have hf := h k (by omega)
    exact (ad_spec (sqTo_le f m n hm h k (by omega)) (sq_spec (sb_spec (float_nat hf.1 (by omega)) hm).2).2).2


theorem stats_stop (v : Value) (c : Int) (w : World) (hq : Calls Try.prog 48 #[v] w fun e w' => e = .returned (.int .i64 c) ∧ w = w') (hc : (c != 0) = true) :
    Calls Try.prog 22 #[v] w fun e w' => e = .returned (.tuple #[.float .f64 0, .float .f64 0, .int .i64 c]) ∧ w = w' := by
  have Q := Lib.hid hq
  clear hq
  go_enter Try.func22, Try.ntmps22
  go_wp2_with fail
  refine Q.out.mono ?_
  rintro e w' ⟨rfl, rfl⟩
  go_wp2_with fail
  go_ret3
  exact ⟨rfl, rfl⟩
theorem stats_empty (a : Option Addr) (cap : Nat) (w : World) (hq : Calls Try.prog 48 #[.slice a 0 cap] w fun e w' => e = .returned (.int .i64 0) ∧ w = w') :
    Calls Try.prog 22 #[.slice a 0 cap] w fun e w' => e = .returned (.tuple #[.float .f64 0, .float .f64 0, .int .i64 0]) ∧ w = w' := by
  have Q := Lib.hid hq
  clear hq
  go_enter Try.func22, Try.ntmps22
  go_wp2_with fail
  refine Q.out.mono ?_
  rintro e w' ⟨rfl, rfl⟩
  go_wp2_with fail
  go_ret3
  exact ⟨rfl, rfl⟩
set_option maxRecDepth 100000 in
set_option maxHeartbeats 1000000 in
theorem stats_ok (b off len cap : Nat) (f : Nat → Int) (w : World) (h0 : 0 < len) (hl : len ≤ 4096) (hc : ∀ i, i < len → w.cell? ⟨b, off + i, none⟩ = some (.int .i64 (f i))) (hok : ∀ i, i < len → 0 ≤ f i ∧ f i ≤ 1099511627776)
    (hq : Calls Try.prog 48 #[.slice (some ⟨b, off, none⟩) len cap] w fun e w' => e = .returned (.int .i64 0) ∧ w = w') :
    Calls Try.prog 22 #[.slice (some ⟨b, off, none⟩) len cap] w fun e w' => e = .returned (.tuple #[.float .f64 (meanTo f len), .float .f64 (devTo f len), .int .i64 0]) ∧ w = w' := by
  have Q := Lib.hid hq
  have Hc := Lib.hid hc
  have Hok := Lib.hid hok
  have M := mean_spec f len h0 hl hok
  have Hm := Lib.hid M.2
  have Sq := Lib.hid (sqTo_le f (meanTo f len) len M.2 hok)
  have Sm := Lib.hid (sumTo_bd f len hok)
  have D := dv_spec (Sq.out len (Nat.le_refl _)) (float_nat (by omega : (0 : Int) ≤ (len : Int)) (by omega)) (float_ne h0 (by omega))
  have o1 : ∀ t w, (binOp .quo t (.float .f64 (floatOfInt .f64 (sumTo f len))) (.float .f64 (floatOfInt .f64 (len : Int)))).run Try.prog w = .ok (.float .f64 (meanTo f len)) w := fun t w => run_float_arith w .quo t .f64 _ _ _ M.1
  have o2 : ∀ t w, (binOp .quo t (.float .f64 (sqTo f (meanTo f len) len)) (.float .f64 (floatOfInt .f64 (len : Int)))).run Try.prog w = .ok (.float .f64 (dv (sqTo f (meanTo f len) len) (floatOfInt .f64 (len : Int)))) w := fun t w => run_float_arith w .quo t .f64 _ _ _ D.1
  have Rt := Lib.hid (fun w => sqrt_c _ _ w (rt_spec D.2).1)
  have hdev : rt (dv (sqTo f (meanTo f len) len) (floatOfInt .f64 (len : Int))) = devTo f len := rfl
  have Hdev := Lib.hid hdev
  clear hq hc hok M D hdev
  generalize hM : meanTo f len = M at *
  have HM := Lib.hid hM
  clear hM
  have hlen : ((len : Int) == 0) = false := by simp; omega
  go_enter Try.func22, Try.ntmps22
  go_wp2_with fail
  refine Q.out.mono ?_
  rintro e w' ⟨rfl, rfl⟩
  go_wp2_with fail
  go_loop [6, 26] (fun s i => ∃ k : Nat, k ≤ len ∧ i = .int .i64 k ∧ s = .int .i64 (sumTo f k)) (fun _ i => len - (intOf i).toNat)
  case atStart => exact ⟨0, Nat.zero_le _, rfl, rfl⟩
  case round =>
    obtain ⟨k, hk, rfl, rfl⟩ := hrel
    by_cases hlt : k < len
    · have c := Hc.out k hlt
      have g1 := (Hok.out k hlt).1
      have g2 := (Hok.out k hlt).2
      have s1 := (Sm.out k hk).1
      have s2 := (Sm.out k hk).2
      go_wp2_with fail
      go_round
      case rel => exact ⟨k + 1, by omega, by go_num, rfl⟩
      case measure => simp [intOf]; omega
    · obtain rfl : k = len := by omega
      clear hlt hk
      go_wp2_with fail
      go_loop [10, 43] (fun s i => ∃ j : Nat, j ≤ k ∧ i = .int .i64 j ∧ s = .float .f64 (sqTo f M j)) (fun _ i => k - (intOf i).toNat)
      case atStart => exact ⟨0, Nat.zero_le _, rfl, rfl⟩
      case round =>
        obtain ⟨j, hj, rfl, rfl⟩ := hrel
        by_cases hlt : j < k
        · have c := Hc.out j hlt
          have g := Hok.out j hlt
          have sp := sb_spec (float_nat g.1 (by omega)) Hm.out
          have qs := sq_spec sp.2
          have ax := ad_spec (Sq.out j hj) qs.2
          have p1 : ∀ t w, (binOp .sub t (.float .f64 (floatOfInt .f64 (f j))) (.float .f64 M)).run Try.prog w = .ok (.float .f64 (sb (floatOfInt .f64 (f j)) M)) w := fun t w => run_float_arith w .sub t .f64 _ _ _ sp.1
          have p2 : ∀ t w, (binOp .mul t (.float .f64 (sb (floatOfInt .f64 (f j)) M)) (.float .f64 (sb (floatOfInt .f64 (f j)) M))).run Try.prog w = .ok (.float .f64 (sq (sb (floatOfInt .f64 (f j)) M))) w := fun t w => run_float_arith w .mul t .f64 _ _ _ qs.1
          have p3 : ∀ t w, (binOp .add t (.float .f64 (sqTo f M j)) (.float .f64 (sq (sb (floatOfInt .f64 (f j)) M)))).run Try.prog w = .ok (.float .f64 (ad (sqTo f M j) (sq (sb (floatOfInt .f64 (f j)) M)))) w := fun t w => run_float_arith w .add t .f64 _ _ _ ax.1
          clear sp qs ax g
          go_wp2_with fail
          go_round
          case rel => exact ⟨j + 1, by omega, by go_num, rfl⟩
          case measure => simp [intOf]; omega
        · obtain rfl : j = k := by omega
          clear hlt hj
          go_wp2_with fail
          refine (Rt.out _).mono ?_
          rintro e w' ⟨rfl, rfl⟩
          go_wp2_with fail
          go_ret3
          exact ⟨by rw [Hdev.out]; rfl, rfl⟩


theorem statsref_stop (v : Value) (c : Int) (w : World) (hq : Calls Try.prog 50 #[v] w fun e w' => e = .returned (.int .i64 c) ∧ w = w') (hc : (c != 0) = true) :
    Calls Try.prog 23 #[v] w fun e w' => e = .returned (.tuple #[.float .f64 0, .float .f64 0, .int .i64 c]) ∧ w = w' := by
  have Q := Lib.hid hq
  clear hq
  go_enter Try.func23, Try.ntmps23
  go_wp2_with fail
  refine Q.out.mono ?_
  rintro e w' ⟨rfl, rfl⟩
  go_wp2_with fail
  go_ret3
  exact ⟨rfl, rfl⟩
theorem statsref_empty (a : Option Addr) (cap : Nat) (w : World) (hq : Calls Try.prog 50 #[.slice a 0 cap] w fun e w' => e = .returned (.int .i64 0) ∧ w = w') :
    Calls Try.prog 23 #[.slice a 0 cap] w fun e w' => e = .returned (.tuple #[.float .f64 0, .float .f64 0, .int .i64 0]) ∧ w = w' := by
  have Q := Lib.hid hq
  clear hq
  go_enter Try.func23, Try.ntmps23
  go_wp2_with fail
  refine Q.out.mono ?_
  rintro e w' ⟨rfl, rfl⟩
  go_wp2_with fail
  go_ret3
  exact ⟨rfl, rfl⟩
set_option maxRecDepth 100000 in
set_option maxHeartbeats 1000000 in
theorem statsref_ok (b off len cap : Nat) (f : Nat → Int) (w : World) (h0 : 0 < len) (hl : len ≤ 4096) (hc : ∀ i, i < len → w.cell? ⟨b, off + i, none⟩ = some (.int .i64 (f i))) (hok : ∀ i, i < len → 0 ≤ f i ∧ f i ≤ 1099511627776)
    (hq : Calls Try.prog 50 #[.slice (some ⟨b, off, none⟩) len cap] w fun e w' => e = .returned (.int .i64 0) ∧ w = w') :
    Calls Try.prog 23 #[.slice (some ⟨b, off, none⟩) len cap] w fun e w' => e = .returned (.tuple #[.float .f64 (meanTo f len), .float .f64 (devTo f len), .int .i64 0]) ∧ w = w' := by
  have Q := Lib.hid hq
  have Hc := Lib.hid hc
  have Hok := Lib.hid hok
  have M := mean_spec f len h0 hl hok
  have Hm := Lib.hid M.2
  have Sq := Lib.hid (sqTo_le f (meanTo f len) len M.2 hok)
  have Sm := Lib.hid (sumTo_bd f len hok)
  have D := dv_spec (Sq.out len (Nat.le_refl _)) (float_nat (by omega : (0 : Int) ≤ (len : Int)) (by omega)) (float_ne h0 (by omega))
  have o1 : ∀ t w, (binOp .quo t (.float .f64 (floatOfInt .f64 (sumTo f len))) (.float .f64 (floatOfInt .f64 (len : Int)))).run Try.prog w = .ok (.float .f64 (meanTo f len)) w := fun t w => run_float_arith w .quo t .f64 _ _ _ M.1
  have o2 : ∀ t w, (binOp .quo t (.float .f64 (sqTo f (meanTo f len) len)) (.float .f64 (floatOfInt .f64 (len : Int)))).run Try.prog w = .ok (.float .f64 (dv (sqTo f (meanTo f len) len) (floatOfInt .f64 (len : Int)))) w := fun t w => run_float_arith w .quo t .f64 _ _ _ D.1
  have Rt := Lib.hid (fun w => sqrt_c _ _ w (rt_spec D.2).1)
  have hdev : rt (dv (sqTo f (meanTo f len) len) (floatOfInt .f64 (len : Int))) = devTo f len := rfl
  have Hdev := Lib.hid hdev
  clear hq hc hok M D hdev
  generalize hM : meanTo f len = M at *
  have HM := Lib.hid hM
  clear hM
  have hlen : ((len : Int) == 0) = false := by simp; omega
  go_enter Try.func23, Try.ntmps23
  go_wp2_with fail
  refine Q.out.mono ?_
  rintro e w' ⟨rfl, rfl⟩
  go_wp2_with fail
  go_loop [6, 7] (fun s i => ∃ k : Nat, k ≤ len ∧ i = .int .i64 k ∧ s = .int .i64 (sumTo f k)) (fun _ i => len - (intOf i).toNat)
  case atStart => exact ⟨0, Nat.zero_le _, rfl, rfl⟩
  case round =>
    obtain ⟨k, hk, rfl, rfl⟩ := hrel
    by_cases hlt : k < len
    · have c := Hc.out k hlt
      have g1 := (Hok.out k hlt).1
      have g2 := (Hok.out k hlt).2
      have s1 := (Sm.out k hk).1
      have s2 := (Sm.out k hk).2
      go_wp2_with fail
      go_round
      case rel => exact ⟨k + 1, by omega, by go_num, rfl⟩
      case measure => simp [intOf]; omega
    · obtain rfl : k = len := by omega
      clear hlt hk
      go_wp2_with fail
      go_loop [10, 11] (fun s i => ∃ j : Nat, j ≤ k ∧ i = .int .i64 j ∧ s = .float .f64 (sqTo f M j)) (fun _ i => k - (intOf i).toNat)
      case atStart => exact ⟨0, Nat.zero_le _, rfl, rfl⟩
      case round =>
        obtain ⟨j, hj, rfl, rfl⟩ := hrel
        by_cases hlt : j < k
        · have c := Hc.out j hlt
          have g := Hok.out j hlt
          have sp := sb_spec (float_nat g.1 (by omega)) Hm.out
          have qs := sq_spec sp.2
          have ax := ad_spec (Sq.out j hj) qs.2
          have p1 : ∀ t w, (binOp .sub t (.float .f64 (floatOfInt .f64 (f j))) (.float .f64 M)).run Try.prog w = .ok (.float .f64 (sb (floatOfInt .f64 (f j)) M)) w := fun t w => run_float_arith w .sub t .f64 _ _ _ sp.1
          have p2 : ∀ t w, (binOp .mul t (.float .f64 (sb (floatOfInt .f64 (f j)) M)) (.float .f64 (sb (floatOfInt .f64 (f j)) M))).run Try.prog w = .ok (.float .f64 (sq (sb (floatOfInt .f64 (f j)) M))) w := fun t w => run_float_arith w .mul t .f64 _ _ _ qs.1
          have p3 : ∀ t w, (binOp .add t (.float .f64 (sqTo f M j)) (.float .f64 (sq (sb (floatOfInt .f64 (f j)) M)))).run Try.prog w = .ok (.float .f64 (ad (sqTo f M j) (sq (sb (floatOfInt .f64 (f j)) M)))) w := fun t w => run_float_arith w .add t .f64 _ _ _ ax.1
          clear sp qs ax g
          go_wp2_with fail
          go_round
          case rel => exact ⟨j + 1, by omega, by go_num, rfl⟩
          case measure => simp [intOf]; omega
        · obtain rfl : j = k := by omega
          clear hlt hj
          go_wp2_with fail
          refine (Rt.out _).mono ?_
          rintro e w' ⟨rfl, rfl⟩
          go_wp2_with fail
          go_ret3
          exact ⟨by rw [Hdev.out]; rfl, rfl⟩

end Go.Proofs.Ytomcdnkafgmleaa
