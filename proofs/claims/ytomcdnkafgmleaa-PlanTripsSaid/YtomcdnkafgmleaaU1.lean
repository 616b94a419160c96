/- The tour is the least of all rounds (plain). -/
import Derived.Test.YtomcdnkafgmleaaT9
namespace Go.Proofs.Ytomcdnkafgmleaa

/-- the way on from a stop through others, and back -/
def way (far : Nat → Nat → Int) (a : Nat) : List Int → Int
  | [] => far a 0
  | j :: l => far a j.toNat + way far j.toNat l
def lexLt : List Int → List Int → Bool
  | x :: a, y :: b => if x ≠ y then decide (x < y) else lexLt a b
  | _, _ => false

theorem bits6 : ∀ k, k < 6 → ∀ S, S < 64 → S / 2 ^ k % 2 = 0 → ∀ j, j < 6 → (S + 2 ^ k) / 2 ^ j % 2 = if j = k then 1 else S / 2 ^ j % 2 := by decide +kernel
theorem bits_n {n k S j : Nat} (hn : n ≤ 6) (hk : k < n) (hS : S < 2 ^ n) (hb : S / 2 ^ k % 2 = 0) (hj : j < n) : (S + 2 ^ k) / 2 ^ j % 2 = if j = k then 1 else S / 2 ^ j % 2 := by
  have h : 2 ^ n ≤ 2 ^ 6 := Nat.pow_le_pow_right (by omega) hn
  exact bits6 k (by omega) S (by omega) hb j (by omega)

theorem best_le {far : Nat → Nat → Int} (hfar : ∀ i j, 0 ≤ far i j ∧ far i j ≤ 1000000000) {n s a i : Nat} (hi0 : 0 < i) (hb : s / 2 ^ i % 2 = 1) : ∀ m, i < m → bestTo far (R far n) s a m ≤ far a i + R far n (s - 2 ^ i) i ∧ 0 ≤ bestTo far (R far n) s a m := by
  intro m
  induction m with
  | zero => intro h; omega
  | succ m ihm =>
    intro hm2
    unfold bestTo
    have hx2 := hfar a m
    by_cases c2 : m = 0 ∨ s / 2 ^ m % 2 = 0
    · rw [if_pos c2]
      refine ihm ?_
      have : i ≠ m := by rintro rfl; omega
      omega
    · rw [if_neg c2]
      have hR2 := R_bound (far := far) n hfar s (s - 2 ^ m) m (Nat.sub_le _ _)
      by_cases e : i = m
      · subst e
        split <;> omega
      · have := ihm (by omega)
        split <;> omega

/-- the stops that were not seen, each once -/
structure Rest (n S : Nat) (l : List Int) : Prop where
  nodup : l.Nodup
  mem : ∀ x, x ∈ l ↔ ∃ j : Nat, x = (j : Int) ∧ j < n ∧ S / 2 ^ j % 2 = 0

theorem full_of {n S : Nat} (h : ∀ j, j < n → S / 2 ^ j % 2 = 1) (hS : S < 2 ^ n) : S = 2 ^ n - 1 := by
  have full : ∀ m, m ≤ n → S % 2 ^ m = 2 ^ m - 1 := by
    intro m hm
    induction m with
    | zero => simp [Nat.mod_one]
    | succ m ih =>
      have h1 := ih (by omega)
      have h2 := h m (by omega)
      have h3 : S % 2 ^ (m + 1) = S % 2 ^ m + 2 ^ m * (S / 2 ^ m % 2) := by rw [Nat.pow_succ, Nat.mod_mul]
      rw [h3, h1, h2, Nat.pow_succ]
      have := Nat.two_pow_pos m
      omega
  have h1 := full n (Nat.le_refl _)
  rw [Nat.mod_eq_of_lt hS] at h1
  exact h1
theorem bit_of_last {n j : Nat} (hj : j < n) : (2 ^ n - 1) / 2 ^ j % 2 = 1 := by
  have h := left_bit (n := n) (s := 0) (Nat.two_pow_pos n) hj
  rw [Nat.sub_zero, Nat.zero_div] at h
  exact h
theorem Rest.next {n S k : Nat} {l : List Int} (hn : n ≤ 6) (hS : S < 2 ^ n) (h : Rest n S ((k : Int) :: l)) : k < n ∧ S / 2 ^ k % 2 = 0 ∧ Rest n (S + 2 ^ k) l := by
  obtain ⟨j, e, hj, hb⟩ := (h.mem k).1 (by simp)
  obtain rfl : k = j := by omega
  have hnd := List.nodup_cons.1 h.nodup
  refine ⟨hj, hb, hnd.2, fun x => ?_⟩
  have hm := h.mem x
  constructor
  · intro hx
    obtain ⟨i, rfl, hi, hib⟩ := hm.1 (by simp [hx])
    have hik : i ≠ k := by rintro rfl; exact hnd.1 hx
    exact ⟨i, rfl, hi, by rw [bits_n hn hj hS hb hi, if_neg hik]; exact hib⟩
  · rintro ⟨i, rfl, hi, hib⟩
    rw [bits_n hn hj hS hb hi] at hib
    by_cases hik : i = k
    · rw [if_pos hik] at hib; omega
    · rw [if_neg hik] at hib
      rcases List.mem_cons.1 (hm.2 ⟨i, rfl, hi, hib⟩) with e | e
      · omega
      · exact e
theorem Rest.nil {n S : Nat} (hS : S < 2 ^ n) (h : Rest n S []) : S = 2 ^ n - 1 :=
  full_of (fun j hj => by
    have : S / 2 ^ j % 2 ≠ 0 := fun e => by
      have := (h.mem j).2 ⟨j, rfl, hj, e⟩
      simp at this
    omega) hS

theorem odd_add {S k : Nat} (h : S % 2 = 1) (hk : 0 < k) : (S + 2 ^ k) % 2 = 1 := by
  obtain ⟨m, rfl⟩ : ∃ m, k = m + 1 := ⟨k - 1, by omega⟩
  rw [Nat.pow_succ]; omega

/-- no way on is shorter; of those as long none is less -/
theorem tour_least {far : Nat → Nat → Int} (hfar : ∀ i j, 0 ≤ far i j ∧ far i j ≤ 1000000000) {n : Nat} (hn : n ≤ 6) (hn1 : 0 < n) : ∀ (l : List Int) (S a f : Nat), S < 2 ^ n → S % 2 = 1 → 2 ^ n - S ≤ f → Rest n S l →
    (T far n S a).1 ≤ way far a l ∧ ((T far n S a).1 = way far a l → lexLt l (tour far n f S a) = false)
  | [], S, a, f, hS, ho, hf, hr => by
    have e := hr.nil hS
    subst e
    rw [T_last]
    exact ⟨Int.le_refl _, fun _ => rfl⟩
  | x :: l, S, a, f, hS, ho, hf, hr => by
    obtain ⟨k, rfl, _, _⟩ := (hr.mem x).1 (by simp)
    obtain ⟨hk, hb, hr2⟩ := hr.next hn hS
    have hadd := add_bit hS hk hb
    have hp := Nat.two_pow_pos k
    have hpar : 2 ^ n % 2 = 0 := by
      obtain ⟨m, rfl⟩ : ∃ m, n = m + 1 := ⟨n - 1, by omega⟩
      rw [Nat.pow_succ]; omega
    have hk0 : 0 < k := by
      rcases Nat.eq_zero_or_pos k with e | e
      · subst e; rw [Nat.pow_zero, Nat.div_one] at hb; omega
      · exact e
    have ih := fun g hg => tour_least hfar hn hn1 l (S + 2 ^ k) k g hadd (odd_add ho hk0) hg hr2
    have hne : S ≠ 2 ^ n - 1 := by rintro rfl; rw [bit_of_last hk] at hb; omega
    have hs2 : 2 ^ n - 1 - (2 ^ n - 1 - S) = S := by omega
    obtain ⟨_, hF⟩ := T_R hfar (n := n) (2 ^ n - 1 - S) (2 ^ n - 1 - S) a (Nat.le_refl _) (by omega) (by omega)
    obtain ⟨f1, f2, j, e1, j0, jn, jb, je, jall⟩ := hF (by omega)
    rw [hs2] at f1 f2 e1 je jall
    have kb : (2 ^ n - 1 - S) / 2 ^ k % 2 = 1 := by rw [left_bit hS hk]; omega
    obtain ⟨le, _⟩ := best_le hfar (n := n) (a := a) hk0 kb n hk
    rw [← f1] at le
    have hle : 2 ^ k ≤ 2 ^ n - 1 - S := bit_le kb
    have eS : 2 ^ n - 1 - (2 ^ n - 1 - S - 2 ^ k) = S + 2 ^ k := by omega
    obtain ⟨eR, _⟩ := T_R hfar (n := n) (2 ^ n - 1 - S - 2 ^ k) (2 ^ n - 1 - S - 2 ^ k) k (Nat.le_refl _) (by omega) (even_sub (by omega) kb)
    rw [eS] at eR
    rw [← eR] at le
    have hw : way far a ((k : Int) :: l) = far a k + way far k l := by
      show far a ((k : Int)).toNat + way far ((k : Int)).toNat l = _
      rw [Int.toNat_natCast]
    rw [hw]
    obtain ⟨i1, _⟩ := ih (2 ^ n) (by omega)
    refine ⟨by omega, fun heq => ?_⟩
    obtain ⟨g, rfl⟩ : ∃ g, f = g + 1 := ⟨f - 1, by omega⟩
    have et : tour far n (g + 1) S a = (j : Int) :: tour far n g (S + 2 ^ j) j := by
      conv => lhs; unfold tour
      rw [if_neg hne, e1, Int.toNat_natCast]
    rw [et]
    show (if (k : Int) ≠ (j : Int) then decide ((k : Int) < (j : Int)) else lexLt l (tour far n g (S + 2 ^ j) j)) = false
    have heq2 : far a k + (T far n (S + 2 ^ k) k).1 = (T far n S a).1 := by omega
    have hkj : j ≤ k := by
      rcases Nat.lt_or_ge k j with h | h
      · have := (jall k hk0 h kb).1
        rw [← eR] at this
        omega
      · exact h
    by_cases hkj2 : (k : Int) ≠ (j : Int)
    · rw [if_pos hkj2]; simp; omega
    · rw [if_neg hkj2]
      obtain rfl : k = j := by omega
      exact (ih g (by omega)).2 (by omega)

/-- the tour itself: as long as it says; each stop once -/
theorem tour_is {far : Nat → Nat → Int} (hfar : ∀ i j, 0 ≤ far i j ∧ far i j ≤ 1000000000) {n : Nat} (hn : n ≤ 6) (hn1 : 0 < n) : ∀ (f S a : Nat), S < 2 ^ n → S % 2 = 1 → 2 ^ n - S ≤ f →
    way far a (tour far n f S a) = (T far n S a).1 ∧ Rest n S (tour far n f S a)
  | 0, S, a, hS, _, hf => by omega
  | f + 1, S, a, hS, ho, hf => by
    by_cases hne : S = 2 ^ n - 1
    · have et : tour far n (f + 1) S a = [] := by
        conv => lhs; unfold tour
        rw [if_pos hne]
      rw [et]
      subst hne
      rw [T_last]
      refine ⟨rfl, List.nodup_nil, fun x => ⟨fun h => by simp at h, ?_⟩⟩
      rintro ⟨j, rfl, hj, hb⟩
      rw [bit_of_last hj] at hb; omega
    · have hpar : 2 ^ n % 2 = 0 := by
        obtain ⟨m, rfl⟩ : ∃ m, n = m + 1 := ⟨n - 1, by omega⟩
        rw [Nat.pow_succ]; omega
      have hs2 : 2 ^ n - 1 - (2 ^ n - 1 - S) = S := by omega
      obtain ⟨_, hF⟩ := T_R hfar (n := n) (2 ^ n - 1 - S) (2 ^ n - 1 - S) a (Nat.le_refl _) (by omega) (by omega)
      obtain ⟨f1, f2, j, e1, j0, jn, jb, je, jall⟩ := hF (by omega)
      rw [hs2] at f1 f2 e1 je jall
      have hb2 : S / 2 ^ j % 2 = 0 := by
        have := left_bit hS jn
        omega
      have hadd := add_bit hS jn hb2
      have hp := Nat.two_pow_pos j
      obtain ⟨i1, i2⟩ := tour_is hfar hn hn1 f (S + 2 ^ j) j hadd (odd_add ho j0) (by omega)
      have hle : 2 ^ j ≤ 2 ^ n - 1 - S := bit_le jb
      have eS : 2 ^ n - 1 - (2 ^ n - 1 - S - 2 ^ j) = S + 2 ^ j := by omega
      obtain ⟨eR, _⟩ := T_R hfar (n := n) (2 ^ n - 1 - S - 2 ^ j) (2 ^ n - 1 - S - 2 ^ j) j (Nat.le_refl _) (by omega) (even_sub (by omega) jb)
      rw [eS] at eR
      have et : tour far n (f + 1) S a = (j : Int) :: tour far n f (S + 2 ^ j) j := by
        conv => lhs; unfold tour
        rw [if_neg hne, e1, Int.toNat_natCast]
      rw [et]
      refine ⟨?_, List.nodup_cons.2 ⟨?_, i2.nodup⟩, fun x => ?_⟩
      · show far a ((j : Int)).toNat + way far ((j : Int)).toNat _ = _
        rw [Int.toNat_natCast, i1]
        omega
      · intro h
        obtain ⟨i, e, hi, hib⟩ := (i2.mem j).1 h
        obtain rfl : j = i := by omega
        rw [bits_n hn jn hS hb2 hi, if_pos rfl] at hib
        omega
      · rw [List.mem_cons, i2.mem]
        constructor
        · rintro (rfl | ⟨i, rfl, hi, hib⟩)
          · exact ⟨j, rfl, jn, hb2⟩
          · refine ⟨i, rfl, hi, ?_⟩
            rw [bits_n hn jn hS hb2 hi] at hib
            by_cases e : i = j
            · rw [if_pos e] at hib; omega
            · rw [if_neg e] at hib; exact hib
        · rintro ⟨i, rfl, hi, hib⟩
          by_cases e : i = j
          · left; rw [e]
          · right
            exact ⟨i, rfl, hi, by rw [bits_n hn jn hS hb2 hi, if_neg e]; exact hib⟩

/-- how long a round is, as it is added up -/
def longTo (far : Nat → Nat → Int) (p : List Int) : Nat → Int
  | 0 => 0
  | k + 1 => longTo far p k + far (p.getD k 0).toNat (p.getD ((k + 1) % p.length) 0).toNat
theorem long_way_aux (far : Nat → Nat → Int) (p : List Int) : ∀ k, k + 1 ≤ p.length → longTo far p k + way far (p.getD k 0).toNat (p.drop (k + 1)) = way far (p.getD 0 0).toNat (p.drop 1)
  | 0, _ => Int.zero_add _
  | k + 1, h => by
    have ih := long_way_aux far p k (by omega)
    have e1 : p.drop (k + 1) = p.getD (k + 1) 0 :: p.drop (k + 1 + 1) := by
      rw [List.drop_eq_getElem_cons (by omega), List.getD_eq_getElem?_getD, List.getElem?_eq_getElem (by omega)]; rfl
    rw [e1] at ih
    have e2 : way far (p.getD k 0).toNat (p.getD (k + 1) 0 :: p.drop (k + 1 + 1)) = far (p.getD k 0).toNat (p.getD (k + 1) 0).toNat + way far (p.getD (k + 1) 0).toNat (p.drop (k + 1 + 1)) := rfl
    rw [e2] at ih
    have e3 : longTo far p (k + 1) = longTo far p k + far (p.getD k 0).toNat (p.getD (k + 1) 0).toNat := by
      show longTo far p k + far (p.getD k 0).toNat (p.getD ((k + 1) % p.length) 0).toNat = _
      rw [Nat.mod_eq_of_lt (by omega)]
    rw [e3]
    omega
theorem long_way (far : Nat → Nat → Int) (l : List Int) : longTo far (0 :: l) (0 :: l).length = way far 0 l := by
  have h := long_way_aux far (0 :: l) l.length (by simp)
  have e1 : (0 :: l).drop (l.length + 1) = [] := by simp
  rw [e1] at h
  have e2 : longTo far (0 :: l) (0 :: l).length = longTo far (0 :: l) l.length + far ((0 :: l).getD l.length 0).toNat 0 := by
    show longTo far (0 :: l) l.length + far ((0 :: l).getD l.length 0).toNat ((0 :: l).getD ((l.length + 1) % (l.length + 1)) 0).toNat = _
    rw [Nat.mod_self]; rfl
  rw [e2]
  exact h
theorem longTo_bound {far : Nat → Nat → Int} (hfar : ∀ i j, 0 ≤ far i j ∧ far i j ≤ 1000000000) (p : List Int) : ∀ k, 0 ≤ longTo far p k ∧ longTo far p k ≤ 1000000000 * (k : Int)
  | 0 => by simp [longTo]
  | k + 1 => by
    have ih := longTo_bound hfar p k
    have h := hfar (p.getD k 0).toNat (p.getD ((k + 1) % p.length) 0).toNat
    unfold longTo
    omega

/-- an order of all stops that begins with the first -/
structure Order (n : Nat) (p : List Int) : Prop where
  len : p.length = n
  nodup : p.Nodup
  mem : ∀ x, x ∈ p ↔ ∃ j : Nat, x = (j : Int) ∧ j < n
  zero : p.getD 0 0 = 0
theorem one_bit {j : Nat} : 1 / 2 ^ j % 2 = if j = 0 then 1 else 0 := by
  rcases Nat.eq_zero_or_pos j with rfl | h
  · rfl
  · have : 2 ≤ 2 ^ j := by
      have := Nat.pow_le_pow_right (n := 2) (by omega) h
      omega
    rw [Nat.div_eq_of_lt (by omega), if_neg (by omega)]
theorem Order.rest {n : Nat} {p : List Int} (h : Order n p) (hn : 0 < n) : ∃ l, p = 0 :: l ∧ Rest n 1 l := by
  cases p with
  | nil => have := h.len; simp at this; omega
  | cons x l =>
    obtain rfl : x = 0 := h.zero
    refine ⟨l, rfl, (List.nodup_cons.1 h.nodup).2, fun x => ?_⟩
    have hm := h.mem x
    constructor
    · intro hx
      obtain ⟨j, rfl, hj⟩ := hm.1 (by simp [hx])
      refine ⟨j, rfl, hj, ?_⟩
      rw [one_bit, if_neg]
      rintro rfl
      exact (List.nodup_cons.1 h.nodup).1 hx
    · rintro ⟨j, rfl, hj, hb⟩
      rw [one_bit] at hb
      have h0 : j ≠ 0 := by rintro rfl; simp at hb
      rcases List.mem_cons.1 (hm.2 ⟨j, rfl, hj⟩) with e | e
      · omega
      · exact e
theorem len_le_of_sub : ∀ (a b : List Int), a.Nodup → (∀ x, x ∈ a → x ∈ b) → a.length ≤ b.length
  | [], _, _, _ => Nat.zero_le _
  | x :: a, b, h, hs => by
    have hx := hs x (by simp)
    have h1 := List.nodup_cons.1 h
    have ih := len_le_of_sub a (b.erase x) h1.2 (fun y hy => by
      have hyb := hs y (by simp [hy])
      have hne : y ≠ x := by rintro rfl; exact h1.1 hy
      exact (List.mem_erase_of_ne hne).2 hyb)
    rw [List.length_erase_of_mem hx] at ih
    have := List.length_pos_of_mem hx
    rw [List.length_cons]; omega
def ups (n : Nat) : List Int := (List.range n).map (fun j : Nat => (j : Int))
theorem ups_mem (n : Nat) (x : Int) : x ∈ ups n ↔ ∃ j : Nat, x = (j : Int) ∧ j < n := by
  unfold ups
  rw [List.mem_map]
  constructor
  · rintro ⟨j, hj, rfl⟩; exact ⟨j, rfl, List.mem_range.1 hj⟩
  · rintro ⟨j, rfl, hj⟩; exact ⟨j, List.mem_range.2 hj, rfl⟩
theorem ups_nodup (n : Nat) : (ups n).Nodup := by
  unfold ups
  rw [List.nodup_iff_pairwise_ne, List.pairwise_map]
  exact (List.nodup_iff_pairwise_ne.1 List.nodup_range).imp fun h e => h (by omega)
theorem ups_order {n : Nat} (h : 0 < n) : Order n (ups n) := by
  refine ⟨by simp [ups], ups_nodup n, ups_mem n, ?_⟩
  obtain ⟨m, rfl⟩ : ∃ m, n = m + 1 := ⟨n - 1, by omega⟩
  simp [ups]
theorem Order.perm {n : Nat} {p q : List Int} (h : Order n p) (hp : q.Perm p) (hz : q.getD 0 0 = 0) : Order n q :=
  ⟨by rw [hp.length_eq, h.len], hp.nodup_iff.2 h.nodup, fun x => by rw [hp.mem_iff]; exact h.mem x, hz⟩

/-- the answer is an order, as long as it says; no other is shorter; of those as long none is less -/
theorem tour_order {far : Nat → Nat → Int} (hfar : ∀ i j, 0 ≤ far i j ∧ far i j ≤ 1000000000) {n : Nat} (hn : n ≤ 6) (hn2 : 2 ≤ n) :
    Order n (0 :: tour far n (2 ^ n) 1 0) ∧ longTo far (0 :: tour far n (2 ^ n) 1 0) n = (T far n 1 0).1 ∧
    ∀ p, Order n p → (T far n 1 0).1 ≤ longTo far p n ∧ ((T far n 1 0).1 = longTo far p n → lexLt p (0 :: tour far n (2 ^ n) 1 0) = false) := by
  have h4 : 2 ^ 2 ≤ 2 ^ n := Nat.pow_le_pow_right (by omega) hn2
  obtain ⟨h1, h2⟩ := tour_is hfar hn (by omega) (2 ^ n) 1 0 (by omega) rfl (by omega)
  have hnd : (0 :: tour far n (2 ^ n) 1 0 : List Int).Nodup := by
    refine List.nodup_cons.2 ⟨fun h => ?_, h2.nodup⟩
    obtain ⟨j, e, hj, hb⟩ := (h2.mem 0).1 h
    obtain rfl : j = 0 := by omega
    rw [one_bit] at hb; simp at hb
  have hm : ∀ x, x ∈ (0 :: tour far n (2 ^ n) 1 0 : List Int) ↔ ∃ j : Nat, x = (j : Int) ∧ j < n := fun x => by
    rw [List.mem_cons, h2.mem]
    constructor
    · rintro (rfl | ⟨j, rfl, hj, _⟩)
      · exact ⟨0, rfl, by omega⟩
      · exact ⟨j, rfl, hj⟩
    · rintro ⟨j, rfl, hj⟩
      by_cases e : j = 0
      · left; rw [e]; rfl
      · right; exact ⟨j, rfl, hj, by rw [one_bit, if_neg e]⟩
  have hl : (0 :: tour far n (2 ^ n) 1 0 : List Int).length = n := by
    have a1 := len_le_of_sub _ (ups n) hnd (fun x hx => (ups_mem n x).2 ((hm x).1 hx))
    have a2 := len_le_of_sub (ups n) _ (ups_nodup n) (fun x hx => (hm x).2 ((ups_mem n x).1 hx))
    have a3 : (ups n).length = n := by simp [ups]
    omega
  refine ⟨⟨hl, hnd, hm, rfl⟩, ?_, fun p hp => ?_⟩
  · have := long_way far (tour far n (2 ^ n) 1 0)
    rw [hl] at this
    rw [this, h1]
  · obtain ⟨l, rfl, hr⟩ := hp.rest (by omega)
    obtain ⟨t1, t2⟩ := tour_least hfar hn (by omega) l 1 0 (2 ^ n) (by omega) rfl (by omega) hr
    have := long_way far l
    rw [hp.len] at this
    rw [this]
    refine ⟨t1, fun h => ?_⟩
    show (if (0 : Int) ≠ 0 then _ else lexLt l _) = false
    rw [if_neg (by simp)]
    exact t2 h
end Go.Proofs.Ytomcdnkafgmleaa
