/- plan.Quarters and larderref17.Quarters come to the same; the comparisons of the law. -/
import Derived.Test.YtomcdnkafgmleaaQ1
import Derived.Test.YtomcdnkafgmleaaF4
import Derived.Test.YtomcdnkafgmleaaA0
import Derived.Test.YtomcdnkafgmleaaS2
import Derived.StillTailTactics
import Derived.Deep.RegionWith
namespace Go.Proofs.Ytomcdnkafgmleaa
open Go.RowKit

theorem quiet_mine {P : Program} {f : FuncId} {args : Array Value} {w : World} {n : Nat} {v : Value}
    (h : Calls P f args (w.drewN n) fun e w' => e = .returned v ∧ w.drewN n = w') : Calls P f args (w.drewN n) fun e w'' => e = .returned v ∧ ∃ m, w'' = w.drewN m :=
  Calls.quiet_of_same (h.mono fun _ _ h => ⟨h.1, h.2.symm⟩)

theorem region_tail {P : Program} {id : Nat} {Q : Exit → Act → World → Prop} {a : Act} {w : World} {l : List Oper} (n : Nat) (hm : P.follows .mixedOrders = true) (hB : Region.lexTailB .any l.toArray n = true)
    (h : wpStill P l.toArray w.drew (fun a' => wpList P l.toArray Q (l.drop n) a' w.drew) (l.take n) a) : (Code.region id l.toArray true).wp P Q a w := wp_region_still_tail n hm hB h

/-- how much stands at the places r, r + 4, .. -/
def cn (f : Nat → Int) (r : Nat) : Nat → Int
  | 0 => 0
  | k + 1 => cn f r k + if k % 4 = r then f k else 0
theorem cn_bd (f : Nat → Int) (n : Nat) (h : ∀ i, i < n → 0 ≤ f i ∧ f i ≤ 1099511627776) (r : Nat) : ∀ k, k ≤ n → 0 ≤ cn f r k ∧ cn f r k ≤ 1099511627776 * (k : Int)
  | 0, _ => ⟨Int.le_refl _, Int.le_refl _⟩
  | k + 1, hk => by
    have ih := cn_bd f n h r k (by omega)
    have := h k (by omega)
    simp only [cn]; split <;> omega
/-- the document's sums -/
def reT (f : Nat → Int) (q : Nat) : Nat → Int
  | 0 => 0
  | k + 1 => if q * k % 4 = 0 then reT f q k + f k else if q * k % 4 = 2 then reT f q k - f k else reT f q k
def imT (f : Nat → Int) (q : Nat) : Nat → Int
  | 0 => 0
  | k + 1 => if q * k % 4 = 1 then imT f q k - f k else if q * k % 4 = 3 then imT f q k + f k else imT f q k
theorem re0 (f : Nat → Int) : ∀ k, reT f 0 k = cn f 0 k + cn f 1 k + cn f 2 k + cn f 3 k
  | 0 => rfl
  | k + 1 => by simp only [reT, cn, re0 f k, Nat.zero_mul]; rcases (by omega : k % 4 = 0 ∨ k % 4 = 1 ∨ k % 4 = 2 ∨ k % 4 = 3) with h | h | h | h <;> simp [h] <;> omega
theorem im0 (f : Nat → Int) : ∀ k, imT f 0 k = 0
  | 0 => rfl
  | k + 1 => by simp only [imT, im0 f k, Nat.zero_mul]; simp
theorem re1 (f : Nat → Int) : ∀ k, reT f 1 k = cn f 0 k - cn f 2 k
  | 0 => rfl
  | k + 1 => by simp only [reT, cn, re1 f k, Nat.one_mul]; split <;> (try split) <;> (try split) <;> omega
theorem im1 (f : Nat → Int) : ∀ k, imT f 1 k = cn f 3 k - cn f 1 k
  | 0 => rfl
  | k + 1 => by simp only [imT, cn, im1 f k, Nat.one_mul]; split <;> (try split) <;> (try split) <;> omega
theorem re2 (f : Nat → Int) : ∀ k, reT f 2 k = cn f 0 k - cn f 1 k + cn f 2 k - cn f 3 k
  | 0 => rfl
  | k + 1 => by simp only [reT, cn, re2 f k]; rcases (by omega : k % 4 = 0 ∨ k % 4 = 1 ∨ k % 4 = 2 ∨ k % 4 = 3) with h | h | h | h <;> (first | (rw [if_pos (by omega)]; simp [h]; omega) | (rw [if_neg (by omega), if_pos (by omega)]; simp [h]; omega))
theorem im2 (f : Nat → Int) : ∀ k, imT f 2 k = 0
  | 0 => rfl
  | k + 1 => by simp only [imT, im2 f k]; rw [if_neg (by omega), if_neg (by omega)]
theorem re3 (f : Nat → Int) : ∀ k, reT f 3 k = cn f 0 k - cn f 2 k
  | 0 => rfl
  | k + 1 => by simp only [reT, cn, re3 f k]; split <;> (try split) <;> (try split) <;> omega
theorem im3 (f : Nat → Int) : ∀ k, imT f 3 k = cn f 1 k - cn f 3 k
  | 0 => rfl
  | k + 1 => by simp only [imT, cn, im3 f k]; split <;> (try split) <;> (try split) <;> omega
theorem T_bd (f : Nat → Int) (n : Nat) (h : ∀ i, i < n → 0 ≤ f i ∧ f i ≤ 1099511627776) (q : Nat) : ∀ k, k ≤ n → (-1099511627776 * (k : Int) ≤ reT f q k ∧ reT f q k ≤ 1099511627776 * (k : Int)) ∧ (-1099511627776 * (k : Int) ≤ imT f q k ∧ imT f q k ≤ 1099511627776 * (k : Int))
  | 0, _ => ⟨⟨Int.le_refl _, Int.le_refl _⟩, ⟨Int.le_refl _, Int.le_refl _⟩⟩
  | k + 1, hk => by
    have ih := T_bd f n h q k (by omega)
    have := h k (by omega)
    simp only [reT, imT]
    refine ⟨?_, ?_⟩
    · split <;> (try split) <;> omega
    · split <;> (try split) <;> omega

theorem number51 (re im : Int) (w : World) : Calls Try.prog 51 #[.int .i64 re, .int .i64 im] w fun e w' => e = .returned (.complex .f64 (floatOfInt .f64 re) (floatOfInt .f64 im)) ∧ w = w' := by
  go_enter Try.func51, Try.ntmps51
  go_wp2
  go_ret
  exact ⟨rfl, rfl⟩

theorem number51' (re im : Int) (w : World) : Calls Try.prog 51 #[.int .i64 re, .int .i64 im] w fun e w' => e = .returned (.complex .f64 (floatOfInt .f64 re) (floatOfInt .f64 im)) ∧ w' = w := (number51 re im w).mono fun _ _ h => ⟨h.1, h.2.symm⟩
/-- plan's four quarters, and the document's -/
def quartersP (f : Nat → Int) (n : Nat) : Value := .agg #[.complex .f64 (floatOfInt .f64 (cn f 0 n + cn f 1 n + cn f 2 n + cn f 3 n)) (floatOfInt .f64 0), .complex .f64 (floatOfInt .f64 (cn f 0 n - cn f 2 n)) (floatOfInt .f64 (cn f 3 n - cn f 1 n)),
  .complex .f64 (floatOfInt .f64 (cn f 0 n - cn f 1 n + cn f 2 n - cn f 3 n)) (floatOfInt .f64 0), .complex .f64 (floatOfInt .f64 (cn f 0 n - cn f 2 n)) (floatOfInt .f64 (cn f 1 n - cn f 3 n))]

theorem quarters_stop (v : Value) (c : Int) (w : World) (hq : ∀ w1, Below w.heap.size w w1 → Calls Try.prog 48 #[v] w1 fun e w' => e = .returned (.int .i64 c) ∧ w1 = w') (hc : (c != 0) = true) :
    Calls Try.prog 26 #[v] w fun e w' => e = .returned (.tuple #[.agg #[.complex .f64 0 0, .complex .f64 0 0, .complex .f64 0 0, .complex .f64 0 0], .int .i64 c]) ∧ Below w.heap.size w w' := by
  have Q := Lib.hid hq
  clear hq
  go_enter Try.func26, Try.ntmps26
  go_wp2_with fail
  refine (Q.out _ ((Below.refl _ _).alloc (Nat.le_refl _) _)).mono ?_
  rintro e w' ⟨rfl, rfl⟩
  go_wp2_with fail
  refine bodyPost_ret (v := .tuple #[.agg #[.complex .f64 0 0, .complex .f64 0 0, .complex .f64 0 0, .complex .f64 0 0], .int .i64 c]) (by simp [results, Try.results26, go_sem]) rfl ⟨rfl, ?_⟩
  exact (Below.refl _ _).alloc (Nat.le_refl _) _

set_option maxRecDepth 100000 in
set_option maxHeartbeats 2000000 in
theorem quarters_ok (b off len cap : Nat) (f : Nat → Int) (w : World) (hl : len ≤ 4096) (hb : 0 < len → b < w.heap.size) (hc : ∀ i, i < len → w.cell? ⟨b, off + i, none⟩ = some (.int .i64 (f i))) (hok : ∀ i, i < len → 0 ≤ f i ∧ f i ≤ 1099511627776)
    (hq : ∀ w1, Below w.heap.size w w1 → Calls Try.prog 48 #[.slice (some ⟨b, off, none⟩) len cap] w1 fun e w' => e = .returned (.int .i64 0) ∧ w1 = w') :
    Calls Try.prog 26 #[.slice (some ⟨b, off, none⟩) len cap] w fun e w' => e = .returned (.tuple #[quartersP f len, .int .i64 0]) ∧ Below w.heap.size w w' := by
  have Q := Lib.hid hq
  have Hb := Lib.hid hb
  have Hc := Lib.hid hc
  have Hok := Lib.hid hok
  have Bd := Lib.hid (cn_bd f len hok)
  clear hq hc hok hb
  go_enter Try.func26, Try.ntmps26
  go_wp2_with fail
  refine (Q.out _ ((Below.refl _ _).alloc (Nat.le_refl _) _)).mono ?_
  rintro e w' ⟨rfl, rfl⟩
  go_wp2_with fail
  go_loopw [17] (fun i wr => ∃ k : Nat, k ≤ len ∧ i = .int .i64 k ∧ wr = (w.alloc (.cells #[.complex .f64 0 0, .complex .f64 0 0, .complex .f64 0 0, .complex .f64 0 0] 25)).alloc (.cells #[.int .i64 (cn f 0 k), .int .i64 (cn f 1 k), .int .i64 (cn f 2 k), .int .i64 (cn f 3 k)] 112)) (fun i _ => len - (intOf i).toNat)
  case atStart => exact ⟨0, Nat.zero_le _, rfl, rfl⟩
  case round =>
    obtain ⟨k, hk, rfl, rfl⟩ := hrel
    have b0 := Bd.out 0 k hk
    have b1 := Bd.out 1 k hk
    have b2 := Bd.out 2 k hk
    have b3 := Bd.out 3 k hk
    by_cases hlt : k < len
    · have g1 := (Hok.out k hlt).1
      have g2 := (Hok.out k hlt).2
      have hbw := Hb.out (by omega)
      have c := Hc.out k hlt
      rcases (by omega : k % 4 = 0 ∨ k % 4 = 1 ∨ k % 4 = 2 ∨ k % 4 = 3) with h | h | h | h

      · have h' : (k : Int) % 4 = 0 := by omega
        have e0 : cn f 0 (k + 1) = cn f 0 k + f k := by simp only [cn]; rw [if_pos (by omega)]
        have e1 : cn f 1 (k + 1) = cn f 1 k := by simp only [cn]; rw [if_neg (by omega)]; omega
        have e2 : cn f 2 (k + 1) = cn f 2 k := by simp only [cn]; rw [if_neg (by omega)]; omega
        have e3 : cn f 3 (k + 1) = cn f 3 k := by simp only [cn]; rw [if_neg (by omega)]; omega
        have E := Lib.hid (And.intro e0 (And.intro e1 (And.intro e2 e3)))
        clear e0 e1 e2 e3 h
        go_wp2_with fail
        go_roundw
        case rel => exact ⟨k + 1, by omega, by go_num, by rw [E.out.1, E.out.2.1, E.out.2.2.1, E.out.2.2.2]⟩
        case measure => simp [intOf]; omega
      · have h' : (k : Int) % 4 = 1 := by omega
        have e0 : cn f 0 (k + 1) = cn f 0 k := by simp only [cn]; rw [if_neg (by omega)]; omega
        have e1 : cn f 1 (k + 1) = cn f 1 k + f k := by simp only [cn]; rw [if_pos (by omega)]
        have e2 : cn f 2 (k + 1) = cn f 2 k := by simp only [cn]; rw [if_neg (by omega)]; omega
        have e3 : cn f 3 (k + 1) = cn f 3 k := by simp only [cn]; rw [if_neg (by omega)]; omega
        have E := Lib.hid (And.intro e0 (And.intro e1 (And.intro e2 e3)))
        clear e0 e1 e2 e3 h
        go_wp2_with fail
        go_roundw
        case rel => exact ⟨k + 1, by omega, by go_num, by rw [E.out.1, E.out.2.1, E.out.2.2.1, E.out.2.2.2]⟩
        case measure => simp [intOf]; omega
      · have h' : (k : Int) % 4 = 2 := by omega
        have e0 : cn f 0 (k + 1) = cn f 0 k := by simp only [cn]; rw [if_neg (by omega)]; omega
        have e1 : cn f 1 (k + 1) = cn f 1 k := by simp only [cn]; rw [if_neg (by omega)]; omega
        have e2 : cn f 2 (k + 1) = cn f 2 k + f k := by simp only [cn]; rw [if_pos (by omega)]
        have e3 : cn f 3 (k + 1) = cn f 3 k := by simp only [cn]; rw [if_neg (by omega)]; omega
        have E := Lib.hid (And.intro e0 (And.intro e1 (And.intro e2 e3)))
        clear e0 e1 e2 e3 h
        go_wp2_with fail
        go_roundw
        case rel => exact ⟨k + 1, by omega, by go_num, by rw [E.out.1, E.out.2.1, E.out.2.2.1, E.out.2.2.2]⟩
        case measure => simp [intOf]; omega
      · have h' : (k : Int) % 4 = 3 := by omega
        have e0 : cn f 0 (k + 1) = cn f 0 k := by simp only [cn]; rw [if_neg (by omega)]; omega
        have e1 : cn f 1 (k + 1) = cn f 1 k := by simp only [cn]; rw [if_neg (by omega)]; omega
        have e2 : cn f 2 (k + 1) = cn f 2 k := by simp only [cn]; rw [if_neg (by omega)]; omega
        have e3 : cn f 3 (k + 1) = cn f 3 k + f k := by simp only [cn]; rw [if_pos (by omega)]
        have E := Lib.hid (And.intro e0 (And.intro e1 (And.intro e2 e3)))
        clear e0 e1 e2 e3 h
        go_wp2_with fail
        go_roundw
        case rel => exact ⟨k + 1, by omega, by go_num, by rw [E.out.1, E.out.2.1, E.out.2.2.1, E.out.2.2.2]⟩
        case measure => simp [intOf]; omega
    · obtain rfl : k = len := by omega
      clear hlt
      go_wp2_with fail
      refine region_tail 51 (by kernel_rfl) (by kernel_rfl) ?_
      simp only [List.take_succ_cons, List.take_zero, List.drop_succ_cons, List.drop_zero]
      have s1 : IntKind.i64.wrap (cn f 0 k + cn f 1 k) = cn f 0 k + cn f 1 k := IntWalk.i64_in _ (by omega)
      have s2 : IntKind.i64.wrap (cn f 0 k + cn f 1 k + cn f 2 k) = cn f 0 k + cn f 1 k + cn f 2 k := IntWalk.i64_in _ (by omega)
      have s3 : IntKind.i64.wrap (cn f 0 k + cn f 1 k + cn f 2 k + cn f 3 k) = cn f 0 k + cn f 1 k + cn f 2 k + cn f 3 k := IntWalk.i64_in _ (by omega)
      have s4 : IntKind.i64.wrap (cn f 0 k - cn f 2 k) = cn f 0 k - cn f 2 k := IntWalk.i64_in _ (by omega)
      have s5 : IntKind.i64.wrap (cn f 3 k - cn f 1 k) = cn f 3 k - cn f 1 k := IntWalk.i64_in _ (by omega)
      have s6 : IntKind.i64.wrap (cn f 0 k - cn f 1 k) = cn f 0 k - cn f 1 k := IntWalk.i64_in _ (by omega)
      have s7 : IntKind.i64.wrap (cn f 0 k - cn f 1 k + cn f 2 k) = cn f 0 k - cn f 1 k + cn f 2 k := IntWalk.i64_in _ (by omega)
      have s8 : IntKind.i64.wrap (cn f 0 k - cn f 1 k + cn f 2 k - cn f 3 k) = cn f 0 k - cn f 1 k + cn f 2 k - cn f 3 k := IntWalk.i64_in _ (by omega)
      have s9 : IntKind.i64.wrap (cn f 1 k - cn f 3 k) = cn f 1 k - cn f 3 k := IntWalk.i64_in _ (by omega)
      clear b0 b1 b2 b3
      repeat (first | still_step | still_call (number51' _ _ _))
      refine wpStill_nil ?_
      clear s1 s2 s3 s4 s5 s6 s7 s8 s9
      go_wp2_with fail
      refine bodyPost_ret (v := .tuple #[quartersP f k, .int .i64 0]) (by simp [results, Try.results26, go_sem, quartersP]) rfl ⟨rfl, ?_⟩
      exact ((bel2 _ _ _)).drew
end Go.Proofs.Ytomcdnkafgmleaa
