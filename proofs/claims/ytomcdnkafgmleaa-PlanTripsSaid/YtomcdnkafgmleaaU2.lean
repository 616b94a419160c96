/- How long a round is; which of two orders is less. -/
import Derived.Test.YtomcdnkafgmleaaU1
import Derived.Test.YtomcdnkafgmleaaT7
namespace Go.Proofs.Ytomcdnkafgmleaa
open Go.RowKit

theorem Ints.get {w : World} {v : Value} {p : List Int} (h : Ints w v p) (h0 : 0 < p.length) : ∃ b off cap, v = .slice (some ⟨b, off, none⟩) p.length cap ∧ ∀ i, i < p.length → w.cell? ⟨b, off + i, none⟩ = some (.int .i64 (p.getD i 0)) := by
  rcases h with ⟨a, cap, e, rfl⟩ | ⟨b, off, cap, _, _, e, hc⟩
  · simp at h0
  · exact ⟨b, off, cap, e, hc⟩

set_option maxRecDepth 100000 in
set_option maxHeartbeats 2000000 in
theorem long19 (v v' : Value) (n : Nat) (M : Nat → List Int) (far : Nat → Nat → Int) (p : List Int) (w : World) (hfar : ∀ i j, far i j = (M i).getD j 0) (hb : ∀ i j, 0 ≤ far i j ∧ far i j ≤ 1000000000) (hv : Rows2 w v n M) (hM : ∀ i, i < n → (M i).length = n)
    (hv' : Ints w v' p) (hp : p.length = n) (hn0 : 0 < n) (hn : n ≤ 12) (hel : ∀ k, k < n → ∃ q : Nat, p.getD k 0 = (q : Int) ∧ q < n) :
    Calls Try.prog 19 #[v, v'] w fun e w' => e = .returned (.int .i64 (longTo far p n)) ∧ Below w.heap.size w w' := by
  obtain ⟨a, cap, rfl, hm⟩ := hv.form
  obtain ⟨b2, off2, cap2, rfl, hc2⟩ := hv'.get (by omega)
  have HV := Lib.hid hv
  have HM := Lib.hid hM
  have HC := Lib.hid hc2
  have HE := Lib.hid hel
  have HB := Lib.hid hb
  have HFar := Lib.hid hfar
  clear hv hM hc2 hel hb hfar hv'
  rw [hp] at HC ⊢
  have HP := Lib.hid hp
  clear hp
  go_enter Try.func19, Try.ntmps19
  go_wp2_with fail
  go_loopw [5, 6] (fun s i wr => ∃ (k m : Nat), k ≤ n ∧ i = .int .i64 k ∧ s = .int .i64 (longTo far p k) ∧ wr = w.drewN m) (fun _ i _ => n - (intOf i).toNat)
  case atStart => exact ⟨0, 0, Nat.zero_le _, rfl, rfl, rfl⟩
  obtain ⟨k, m, hk, rfl, rfl, rfl⟩ := hrel
  by_cases hlt : k < n
  case pos =>
    obtain ⟨q1, hq1, lq1⟩ := HE.out k hlt
    obtain ⟨q2, hq2, lq2⟩ := HE.out ((k + 1) % n) (Nat.mod_lt _ hn0)
    obtain ⟨b, off, b3, off3, cap3, ha, c1, c2⟩ := HV.out.num (i := q1) (j := q2) lq1 (by rw [HM.out q1 lq1]; exact lq2)
    subst ha
    rw [HM.out q1 lq1] at c1
    have c3 := HC.out k hlt
    have c4 := HC.out ((k + 1) % n) (Nat.mod_lt _ hn0)
    have hbd := longTo_bound HB.out p k
    have hx0 := HB.out q1 q2
    have hst : longTo far p (k + 1) = longTo far p k + far q1 q2 := by
      show longTo far p k + far (p.getD k 0).toNat (p.getD ((k + 1) % p.length) 0).toNat = _
      rw [HP.out, hq1, hq2, Int.toNat_natCast, Int.toNat_natCast]
    rw [← HFar.out] at c2
    rw [hq1] at c3
    rw [hq2] at c4
    obtain ⟨x, hx⟩ : ∃ x, far q1 q2 = x := ⟨_, rfl⟩
    rw [hx] at c2 hx0 hst
    obtain ⟨L, hL⟩ : ∃ L, longTo far p k = L := ⟨_, rfl⟩
    rw [hL] at hbd hst
    rw [hL]
    have HS := Lib.hid hst
    obtain ⟨r, hr⟩ : ∃ r, (k + 1) % n = r := ⟨_, rfl⟩
    have lr : r < n := by rw [← hr]; exact Nat.mod_lt _ hn0
    rw [hr] at c4
    have t0 : (((k : Int) + 1) % (n : Int)) = (r : Int) := by rw [← hr]; exact (Int.natCast_emod (k + 1) n).symm
    have t1 : (((k : Int) + 1).tmod (n : Int)) = (r : Int) := by rw [Int.tmod_eq_emod_of_nonneg (by omega)]; exact t0
    clear hr hst hx hL hq1 hq2
    have z1 : (k : Int) < (n : Int) := by omega
    have z2 : (0 : Int) ≤ (k : Int) := by omega
    have z3 : (q1 : Int) < (n : Int) := by omega
    have z4 : (0 : Int) ≤ (q1 : Int) := by omega
    have z5 : (q2 : Int) < (n : Int) := by omega
    have z6 : (0 : Int) ≤ (q2 : Int) := by omega
    have z7 : (r : Int) < (n : Int) := by omega
    have z8 : (0 : Int) ≤ (r : Int) := by omega
    have z9 : ((n : Int) == 0) = false := by simp; omega
    have w1 : IntKind.i64.wrap ((k : Int) + 1) = (k : Int) + 1 := IntWalk.i64_in _ (by omega)
    have w2 : IntKind.i64.wrap (L + x) = L + x := IntWalk.i64_in _ (by omega)
    go_wp2_with fail
    go_quiet (fail)
    clear w1 w2 t0 t1
    go_wp2_with fail
    go_roundw
    case rel => exact ⟨k + 1, _, by omega, by go_num, by rw [HS.out], rfl⟩
    case measure => simp [intOf]; omega
  obtain rfl : n = k := by omega
  go_wp2_with fail
  go_ret
  exact ⟨rfl, below_drewN (Below.refl _ _) _⟩

theorem lexLt_at : ∀ (a b : List Int) (k : Nat), k < a.length → a.length = b.length → (∀ i, i < k → a.getD i 0 = b.getD i 0) → a.getD k 0 ≠ b.getD k 0 → lexLt a b = decide (a.getD k 0 < b.getD k 0)
  | [], _, _, h, _, _, _ => by simp at h
  | _ :: _, [], _, _, h, _, _ => by simp at h
  | x :: a, y :: b, 0, _, _, _, hne => by
    have : x ≠ y := hne
    show (if x ≠ y then decide (x < y) else lexLt a b) = _
    rw [if_pos this]; rfl
  | x :: a, y :: b, k + 1, h, hl, he, hne => by
    have h0 : x = y := he 0 (by omega)
    show (if x ≠ y then decide (x < y) else lexLt a b) = _
    rw [if_neg (by simp [h0])]
    exact lexLt_at a b k (by simpa using h) (by simpa using hl) (fun i hi => he (i + 1) (by omega)) hne
theorem lexLt_same : ∀ (a b : List Int), a.length = b.length → (∀ i, i < a.length → a.getD i 0 = b.getD i 0) → lexLt a b = false
  | [], _, _, _ => rfl
  | _ :: _, [], h, _ => by simp at h
  | x :: a, y :: b, hl, he => by
    have h0 : x = y := he 0 (by simp)
    show (if x ≠ y then decide (x < y) else lexLt a b) = _
    rw [if_neg (by simp [h0])]
    exact lexLt_same a b (by simpa using hl) (fun i hi => he (i + 1) (by simpa using hi))

set_option maxRecDepth 100000 in
set_option maxHeartbeats 2000000 in
theorem less20 (v v' : Value) (n : Nat) (p q : List Int) (w : World) (hv : Ints w v p) (hv' : Ints w v' q) (hp : p.length = n) (hq : q.length = n) (hn0 : 0 < n) (hn : n ≤ 12) :
    Calls Try.prog 20 #[v, v'] w fun e w' => e = .returned (.bool (lexLt p q)) ∧ Below w.heap.size w w' := by
  obtain ⟨b, off, cap, rfl, hc⟩ := hv.get (by omega)
  obtain ⟨b2, off2, cap2, rfl, hc2⟩ := hv'.get (by omega)
  have HC := Lib.hid hc
  have HC2 := Lib.hid hc2
  clear hv hv' hc hc2
  rw [hp] at HC ⊢
  rw [hq] at HC2 ⊢
  have HP := Lib.hid hp
  have HQ := Lib.hid hq
  clear hp hq
  go_enter Try.func20, Try.ntmps20
  go_wp2_with fail
  go_loopw [5] (fun i wr => ∃ (k m : Nat), k ≤ n ∧ i = .int .i64 k ∧ wr = w.drewN m ∧ ∀ i, i < k → p.getD i 0 = q.getD i 0) (fun i _ => n - (intOf i).toNat)
  case atStart => exact ⟨0, 0, Nat.zero_le _, rfl, rfl, fun i hi => by omega⟩
  obtain ⟨k, m, hk, rfl, rfl, heq⟩ := hrel
  have Heq := Lib.hid heq
  clear heq
  by_cases hlt : k < n
  case pos =>
    have c1 := HC.out k hlt
    have c2 := HC2.out k hlt
    obtain ⟨x, hx⟩ : ∃ x, p.getD k 0 = x := ⟨_, rfl⟩
    obtain ⟨y, hy⟩ : ∃ y, q.getD k 0 = y := ⟨_, rfl⟩
    rw [hx] at c1
    rw [hy] at c2
    have Hx := Lib.hid hx
    have Hy := Lib.hid hy
    clear hx hy
    have z1 : (k : Int) < (n : Int) := by omega
    have z2 : (0 : Int) ≤ (k : Int) := by omega
    by_cases hxy : x = y
    · subst hxy
      go_wp2_with fail
      go_quiet (fail)
      go_wp2_with fail
      go_roundw
      case rel => exact ⟨k + 1, _, by omega, by go_num, rfl, fun i hi => by
        by_cases e : i = k
        · rw [e, Hx.out, Hy.out]
        · exact Heq.out i (by omega)⟩
      case measure => simp [intOf]; omega
    · have f1 : (x == y) = false := by simpa using hxy
      have f2 : (x != y) = true := by simpa using hxy
      have Hr := Lib.hid (lexLt_at p q k (by rw [HP.out]; exact hlt) (by rw [HP.out, HQ.out]) Heq.out (by rw [Hx.out, Hy.out]; exact hxy))
      rw [Hx.out, Hy.out] at Hr
      clear hxy
      go_wp2_with fail
      go_quiet (fail)
      go_wp2_with fail
      go_quiet (fail)
      go_wp2_with fail
      go_ret
      exact ⟨by rw [Hr.out]; rfl, below_drewN (below_drewN (below_drewN (Below.refl _ _) _) _) _⟩
  obtain rfl : n = k := by omega
  have Hr := Lib.hid (lexLt_same p q (by rw [HP.out, HQ.out]) (fun i hi => Heq.out i (by rw [← HP.out]; exact hi)))
  go_wp2_with fail
  go_ret
  exact ⟨by rw [Hr.out]; rfl, below_drewN (Below.refl _ _) _⟩
end Go.Proofs.Ytomcdnkafgmleaa
