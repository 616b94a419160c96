/- The table by the stops that are left, and the table by those that were seen (plain). -/
import Derived.Test.YtomcdnkafgmleaaA2
namespace Go.Proofs.Ytomcdnkafgmleaa

theorem leastTo_pre (l : List (Int × Int)) (x : Int × Int) : ∀ k, k ≤ l.length → leastTo (l ++ [x]) k = leastTo l k
  | 0, _ => rfl
  | k + 1, h => by
    have e : (l ++ [x]).getD k (0, 0) = l.getD k (0, 0) := by
      rw [List.getD_eq_getElem?_getD, List.getD_eq_getElem?_getD, List.getElem?_append_left (by omega)]
    unfold leastTo
    rw [leastTo_pre l x k (by omega), e]
theorem leastTo_snoc (l : List (Int × Int)) (x : Int × Int) : leastTo (l ++ [x]) (l ++ [x]).length = if l.length = 0 ∨ cmpL x (leastTo l l.length) < 0 then x else leastTo l l.length := by
  have e : (l ++ [x]).getD l.length (0, 0) = x := by simp [List.getD_eq_getElem?_getD]
  rw [List.length_append, List.length_singleton]
  show (if l.length = 0 ∨ cmpL ((l ++ [x]).getD l.length (0, 0)) (leastTo (l ++ [x]) l.length) < 0 then _ else _) = _
  rw [e, leastTo_pre l x _ (Nat.le_refl _)]

/-- the least way on from a stop through the stops of a set, as the document reckons it -/
def bestTo (far : Nat → Nat → Int) (R : Nat → Nat → Int) (s a : Nat) : Nat → Int
  | 0 => -1
  | k + 1 => if k = 0 ∨ s / 2 ^ k % 2 = 0 then bestTo far R s a k else if bestTo far R s a k < 0 ∨ far a k + R (s - 2 ^ k) k < bestTo far R s a k then far a k + R (s - 2 ^ k) k else bestTo far R s a k
def rst (far : Nat → Nat → Int) (n : Nat) : Nat → Nat → Nat → Int
  | 0, _, _ => 0
  | f + 1, s, a => if s = 0 then far a 0 else if bestTo far (rst far n f) s a n < 0 then 0 else bestTo far (rst far n f) s a n
def R (far : Nat → Nat → Int) (n s a : Nat) : Int := rst far n (s + 1) s a

theorem bit_le {s k : Nat} (h : s / 2 ^ k % 2 = 1) : 2 ^ k ≤ s := by
  rcases Nat.lt_or_ge s (2 ^ k) with g | g
  · rw [Nat.div_eq_of_lt g] at h; omega
  · exact g
theorem best_congr {far R1 R2 : Nat → Nat → Int} {s a : Nat} : ∀ n, (∀ k, k < n → s / 2 ^ k % 2 = 1 → R1 (s - 2 ^ k) k = R2 (s - 2 ^ k) k) → bestTo far R1 s a n = bestTo far R2 s a n
  | 0, _ => rfl
  | k + 1, h => by
    have ih := best_congr (far := far) (R1 := R1) (R2 := R2) (s := s) (a := a) k fun j hj => h j (by omega)
    unfold bestTo
    rw [ih]
    by_cases c : k = 0 ∨ s / 2 ^ k % 2 = 0
    · rw [if_pos c, if_pos c]
    · rw [if_neg c, if_neg c, h k (by omega) (by omega)]
theorem rst_two (far : Nat → Nat → Int) (n : Nat) : ∀ f g s a, s < f → s < g → rst far n f s a = rst far n g s a
  | 0, _, _, _, h, _ => by omega
  | _ + 1, 0, _, _, _, h => by omega
  | f + 1, g + 1, s, a, hf, hg => by
    unfold rst
    have e : bestTo far (rst far n f) s a n = bestTo far (rst far n g) s a n := best_congr n fun k _ hb => by
      have := bit_le hb
      have := Nat.two_pow_pos k
      exact rst_two far n f g _ k (by omega) (by omega)
    rw [e]
theorem R_zero (far : Nat → Nat → Int) (n a : Nat) : R far n 0 a = far a 0 := by unfold R rst; rw [if_pos rfl]
theorem R_step (far : Nat → Nat → Int) (n s a : Nat) (h : s ≠ 0) : R far n s a = if bestTo far (R far n) s a n < 0 then 0 else bestTo far (R far n) s a n := by
  have e : bestTo far (rst far n s) s a n = bestTo far (R far n) s a n := best_congr n fun k _ hb => by
    have := bit_le hb
    have := Nat.two_pow_pos k
    exact rst_two far n _ _ _ k (by omega) (by omega)
  show rst far n (s + 1) s a = _
  conv => lhs; unfold rst
  rw [if_neg h, e]
theorem best_bound {far : Nat → Nat → Int} {Rf : Nat → Nat → Int} {B : Int} {s a : Nat} (hfar : ∀ i j, 0 ≤ far i j ∧ far i j ≤ 1000000000) (hB : 0 ≤ B) (hR : ∀ k, s / 2 ^ k % 2 = 1 → 0 ≤ Rf (s - 2 ^ k) k ∧ Rf (s - 2 ^ k) k ≤ B) : ∀ n, -1 ≤ bestTo far Rf s a n ∧ bestTo far Rf s a n ≤ 1000000000 + B
  | 0 => by simp only [bestTo]; omega
  | k + 1 => by
    have ih := best_bound hfar hB hR (a := a) k
    unfold bestTo
    by_cases c : k = 0 ∨ s / 2 ^ k % 2 = 0
    · rw [if_pos c]; exact ih
    · rw [if_neg c]
      have h1 := hfar a k
      have h2 := hR k (by omega)
      split <;> omega
theorem R_bound {far : Nat → Nat → Int} (n : Nat) (hfar : ∀ i j, 0 ≤ far i j ∧ far i j ≤ 1000000000) : ∀ m s a, s ≤ m → 0 ≤ R far n s a ∧ R far n s a ≤ 1000000000 * ((m : Int) + 1)
  | m, 0, a, _ => by
    rw [R_zero]
    have := hfar a 0
    omega
  | 0, s + 1, _, h => by omega
  | m + 1, s + 1, a, h => by
    rw [R_step _ _ _ _ (by omega)]
    have := best_bound (far := far) (Rf := R far n) (B := 1000000000 * ((m : Int) + 1)) (s := s + 1) (a := a) hfar (by omega) (fun k hk => by
      have := bit_le hk
      have := Nat.two_pow_pos k
      exact R_bound n hfar m _ k (by omega)) n
    split <;> omega

/-- the stops that were not seen -/
theorem left_bit {n s : Nat} (hs : s < 2 ^ n) {k : Nat} (hk : k < n) : (2 ^ n - 1 - s) / 2 ^ k % 2 = 1 - s / 2 ^ k % 2 := by
  have h := Nat.testBit_two_pow_sub_succ hs k
  rw [Nat.testBit_eq_decide_div_mod_eq, Nat.testBit_eq_decide_div_mod_eq, show 2 ^ n - (s + 1) = 2 ^ n - 1 - s by omega] at h
  by_cases c : s / 2 ^ k % 2 = 1
  · simp [c, hk] at h; omega
  · simp [c, hk] at h; omega

def Found (far : Nat → Nat → Int) (n s a k : Nat) (p : Int × Int) : Prop :=
  p.1 = bestTo far (R far n) s a k ∧ 0 ≤ p.1 ∧ ∃ j : Nat, p.2 = (j : Int) ∧ 0 < j ∧ j < k ∧ s / 2 ^ j % 2 = 1 ∧ far a j + R far n (s - 2 ^ j) j = p.1 ∧ ∀ i, 0 < i → i < j → s / 2 ^ i % 2 = 1 → far a i + R far n (s - 2 ^ i) i ≠ p.1 ∧ p.1 ≤ far a i + R far n (s - 2 ^ i) i

theorem cmpL_neg {a b : Int} {x y : Int × Int} (h1 : x.1 = a) (h2 : y.1 = b) (h3 : y.2 < x.2) : cmpL x y < 0 ↔ a < b := by
  unfold cmpL cmpI
  rw [h1, h2]
  constructor
  · intro h
    split at h
    · split at h
      · assumption
      · split at h <;> omega
    · rw [if_neg (by omega)] at h; exact absurd h (by decide)
  · intro h
    rw [if_pos (by omega), if_pos h]; decide

theorem ways_found {far : Nat → Nat → Int} (hfar : ∀ i j, 0 ≤ far i j ∧ far i j ≤ 1000000000) {n s a : Nat} (hs : s < 2 ^ n) (he : s % 2 = 0)
    (hT : ∀ k, k < n → s / 2 ^ k % 2 = 1 → (T far n (2 ^ n - 1 - (s - 2 ^ k)) k).1 = R far n (s - 2 ^ k) k) : ∀ k, k ≤ n →
      ((ways far (T far n) k (2 ^ n - 1 - s) a).length = 0 ∧ bestTo far (R far n) s a k = -1) ∨
      (0 < (ways far (T far n) k (2 ^ n - 1 - s) a).length ∧ Found far n s a k (leastTo (ways far (T far n) k (2 ^ n - 1 - s) a) (ways far (T far n) k (2 ^ n - 1 - s) a).length))
  | 0, _ => .inl ⟨rfl, rfl⟩
  | k + 1, hk => by
    have ih := ways_found hfar hs he hT (a := a) k (by omega)
    have hb := left_bit hs (k := k) (by omega)
    rw [ways_succ]
    by_cases c : s / 2 ^ k % 2 = 1
    · have k0 : k ≠ 0 := by rintro rfl; rw [Nat.pow_zero, Nat.div_one] at c; omega
      have hle := bit_le c
      have hpk := Nat.two_pow_pos k
      have e2 : 2 ^ n - 1 - s + 2 ^ k = 2 ^ n - 1 - (s - 2 ^ k) := by omega
      rw [if_pos (by omega : (2 ^ n - 1 - s) / 2 ^ k % 2 = 0), e2, hT k (by omega) c, leastTo_snoc]
      have hbt : bestTo far (R far n) s a (k + 1) = if bestTo far (R far n) s a k < 0 ∨ far a k + R far n (s - 2 ^ k) k < bestTo far (R far n) s a k then far a k + R far n (s - 2 ^ k) k else bestTo far (R far n) s a k := by
        conv => lhs; unfold bestTo
        rw [if_neg (by omega)]
      have hx := hfar a k
      have hR := R_bound (far := far) n hfar s (s - 2 ^ k) k (Nat.sub_le _ _)
      generalize ways far (T far n) k (2 ^ n - 1 - s) a = L at *
      refine .inr ⟨by simp, ?_⟩
      rcases ih with ⟨h0, hm⟩ | ⟨h0, hf1, hf2, j, hj1, hj0, hj2, hj3, hj4, hj5⟩
      · rw [if_pos (.inl h0)]
        refine ⟨?_, by show 0 ≤ far a k + R far n (s - 2 ^ k) k; omega, k, rfl, by omega, by omega, c, rfl, fun i h1 h2 h3 => ?_⟩
        · rw [hbt, hm, if_pos (.inl (by decide))]
        · exfalso
          have : ∀ m, m ≤ k → i < m → bestTo far (R far n) s a m ≠ -1 := by
            intro m
            induction m with
            | zero => intro _ h; omega
            | succ m ihm =>
              intro hm1 hm2
              unfold bestTo
              have hx2 := hfar a m
              by_cases c2 : m = 0 ∨ s / 2 ^ m % 2 = 0
              · rw [if_pos c2]
                refine ihm (by omega) ?_
                have : i ≠ m := by rintro rfl; omega
                omega
              · rw [if_neg c2]
                have hR2 := R_bound (far := far) n hfar s (s - 2 ^ m) m (Nat.sub_le _ _)
                split
                · omega
                · omega
          exact this k (Nat.le_refl _) h2 hm
      · generalize hy : leastTo L L.length = y at *
        have hc := cmpL_neg (a := far a k + R far n (s - 2 ^ k) k) (b := y.1) (x := (far a k + R far n (s - 2 ^ k) k, (k : Int))) (y := y) rfl rfl (by rw [hj1]; show (j : Int) < (k : Int); omega)
        by_cases d : far a k + R far n (s - 2 ^ k) k < y.1
        · rw [if_pos (.inr (hc.2 d))]
          refine ⟨?_, by show 0 ≤ far a k + R far n (s - 2 ^ k) k; omega, k, rfl, by omega, by omega, c, rfl, fun i h1 h2 h3 => ?_⟩
          · rw [hbt, ← hf1, if_pos (.inr d)]
          · have : y.1 ≤ far a i + R far n (s - 2 ^ i) i := by
              have key : ∀ m, m ≤ k → i < m → bestTo far (R far n) s a m ≤ far a i + R far n (s - 2 ^ i) i ∧ 0 ≤ bestTo far (R far n) s a m := by
                intro m
                induction m with
                | zero => intro _ h; omega
                | succ m ihm =>
                  intro hm1 hm2
                  unfold bestTo
                  have hx2 := hfar a m
                  by_cases c2 : m = 0 ∨ s / 2 ^ m % 2 = 0
                  · rw [if_pos c2]
                    refine ihm (by omega) ?_
                    have : i ≠ m := by rintro rfl; omega
                    omega
                  · rw [if_neg c2]
                    have hR2 := R_bound (far := far) n hfar s (s - 2 ^ m) m (Nat.sub_le _ _)
                    by_cases e : i = m
                    · subst e
                      split <;> omega
                    · have := ihm (by omega) (by omega)
                      split <;> omega
              rw [hf1]; exact (key k (Nat.le_refl _) h2).1
            constructor
            · show far a i + R far n (s - 2 ^ i) i ≠ far a k + R far n (s - 2 ^ k) k
              omega
            · show far a k + R far n (s - 2 ^ k) k ≤ far a i + R far n (s - 2 ^ i) i
              omega
        · rw [if_neg (by rw [hc]; omega)]
          refine ⟨?_, hf2, j, hj1, hj0, by omega, hj3, hj4, hj5⟩
          rw [hbt, ← hf1, if_neg (by omega)]
    · rw [if_neg (by omega : ¬ (2 ^ n - 1 - s) / 2 ^ k % 2 = 0), List.append_nil]
      have hbt : bestTo far (R far n) s a (k + 1) = bestTo far (R far n) s a k := by
        conv => lhs; unfold bestTo
        rw [if_pos (by omega)]
      rcases ih with ⟨h0, hm⟩ | ⟨h0, hf1, hf2, j, hj1, hj0, hj2, hj3, hj4, hj5⟩
      · exact .inl ⟨h0, by rw [hbt]; exact hm⟩
      · exact .inr ⟨h0, by rw [hbt]; exact hf1, hf2, j, hj1, hj0, by omega, hj3, hj4, hj5⟩

theorem even_sub {s k : Nat} (he : s % 2 = 0) (h : s / 2 ^ k % 2 = 1) : (s - 2 ^ k) % 2 = 0 := by
  have hle := bit_le h
  obtain ⟨m, rfl⟩ : ∃ m, k = m + 1 := ⟨k - 1, by
    have : k ≠ 0 := by rintro rfl; rw [Nat.pow_zero, Nat.div_one] at h; omega
    omega⟩
  rw [Nat.pow_succ] at *
  omega

theorem T_R {far : Nat → Nat → Int} (hfar : ∀ i j, 0 ≤ far i j ∧ far i j ≤ 1000000000) {n : Nat} : ∀ (m s a : Nat), s ≤ m → s < 2 ^ n → s % 2 = 0 → (T far n (2 ^ n - 1 - s) a).1 = R far n s a ∧ (s ≠ 0 → Found far n s a n (T far n (2 ^ n - 1 - s) a))
  | m, 0, a, _, _, _ => by
    rw [Nat.sub_zero, T_last, R_zero]
    exact ⟨rfl, fun h => absurd rfl h⟩
  | 0, s + 1, _, h, _, _ => by omega
  | m + 1, s + 1, a, h, hs, he => by
    have hw := ways_found hfar hs he (a := a) (fun k hk hb => by
      have h1 := bit_le hb
      have h2 := Nat.two_pow_pos k
      exact (T_R hfar m _ k (by omega) (by omega) (even_sub he hb)).1) n (Nat.le_refl _)
    have hp : 0 < (ways far (T far n) n (2 ^ n - 1 - (s + 1)) a).length := ways_some (by omega)
    rcases hw with ⟨h0, _⟩ | ⟨_, hf⟩
    · omega
    · have e := T_least far n (2 ^ n - 1 - (s + 1)) a (by omega)
      rw [← e] at hf
      refine ⟨?_, fun _ => hf⟩
      rw [R_step _ _ _ _ (by omega), hf.1, if_neg (by have := hf.2.1; rw [hf.1] at this; omega)]

/-- the round behind a stop: the next stops in turn -/
def tour (far : Nat → Nat → Int) (n : Nat) : Nat → Nat → Nat → List Int
  | 0, _, _ => []
  | f + 1, s, a => if s = 2 ^ n - 1 then [] else (T far n s a).2 :: tour far n f (s + 2 ^ (T far n s a).2.toNat) (T far n s a).2.toNat
end Go.Proofs.Ytomcdnkafgmleaa
