/- Plain facts on 64-bit floats: a difference that is not below 0; smoothing stays finite. -/
import Derived.Test.YtomcdnkafgmleaaF4
namespace Go.Proofs.Ytomcdnkafgmleaa.F
open Ieee

def subr (a b : Nat) : Nat := min (rg (V a - V b) (-1074)) 9218868437227405312

theorem signed_opp (t : Bool) (n u : Nat) (h : t = true → n = 0) : signed (!t) n u = -((n * 2 ^ u : Nat) : Int) := by
  cases t
  · exact signed_true n u
  · rw [h rfl]; simp [signed]

theorem sub_R {x y a b : Nat} (hx : R x a) (hy : R y b) (ha : a < 9218868437227405312) (hb : b < 9218868437227405312) (hba : b ≤ a) : ∃ z, double.sub x y = some z ∧ R z (subr a b) := by
  obtain ⟨s, h1, s1⟩ := hx.read ha
  obtain ⟨t, h2, t1⟩ := hy.read hb
  have hv := V_le hba
  unfold Format.sub
  rw [h1, h2]
  simp only [Datum.opposite, Datum.sum]
  refine ⟨_, rfl, ?_⟩
  have e1 : (-1074 + (ex a : Int) - min (-1074 + (ex a : Int)) (-1074 + (ex b : Int))).toNat = ex a - min (ex a) (ex b) := by omega
  have e2 : (-1074 + (ex b : Int) - min (-1074 + (ex a : Int)) (-1074 + (ex b : Int))).toNat = ex b - min (ex a) (ex b) := by omega
  have e3 : min (-1074 + (ex a : Int)) (-1074 + (ex b : Int)) = -1074 + ((min (ex a) (ex b) : Nat) : Int) := by omega
  rw [e1, e2, e3, signed_R s _ _ s1, signed_opp t _ _ t1]
  have v1 := scaled a (min (ex a) (ex b)) (by omega)
  have v2 := scaled b (min (ex a) (ex b)) (by omega)
  have hpos := two_pos (min (ex a) (ex b))
  generalize hA : mag a * 2 ^ (ex a - min (ex a) (ex b)) = A at v1 ⊢
  generalize hB : mag b * 2 ^ (ex b - min (ex a) (ex b)) = B at v2 ⊢
  have hBA : B ≤ A := by
    rcases Nat.lt_or_ge A B with g | g
    · exfalso
      have := Nat.mul_lt_mul_of_pos_right g hpos
      rw [v1, v2] at this; omega
    · exact g
  have hs : (A - B) * 2 ^ min (ex a) (ex b) = V a - V b := by rw [Nat.sub_mul, v1, v2]
  have hn : ((A : Int) + -(B : Int)).natAbs = A - B := by omega
  rw [hn]
  simp only [Format.write]
  rw [nearest_eq]
  have hr : rg (A - B) (-1074 + ((min (ex a) (ex b) : Nat) : Int)) = rg (V a - V b) (-1074) := by rw [← rg_scale, hs]
  rw [hr]
  refine word_R _ _ fun h => ?_
  have h0 : A - B = 0 := by
    split at h
    · omega
    · have := of_decide_eq_true h; omega
  rw [← hs, h0, Nat.zero_mul, rg_zero]; rfl

theorem subr_le {a b : Nat} : subr a b ≤ a := by
  unfold subr
  have := rg_mono (-1074) (Nat.sub_le (V a) (V b))
  rw [rg_V] at this; omega

theorem rg1 : rg 1 0 = 4607182418800017408 := by decide +kernel

/-- operations, where they give something -/
def mu (x y : Nat) : Nat := (double.mul x y).getD 0
def pl (x y : Nat) : Nat := (double.add x y).getD 0
def mi (x y : Nat) : Nat := (double.sub x y).getD 0

/-- smoothing -/
def smo (wt rest : Nat) (f : Nat → Int) : Nat → Nat
  | 0 => floatOfInt .f64 (f 0)
  | k + 1 => pl (mu wt (floatOfInt .f64 (f (k + 1)))) (mu rest (smo wt rest f k))

theorem fl_R {n : Int} (h0 : 0 ≤ n) (h : n ≤ 1099511627776) : R (floatOfInt .f64 n) (rg n.toNat 0) ∧ rg n.toNat 0 ≤ rg 1099511627776 0 := by
  obtain ⟨k, rfl⟩ := Int.eq_ofNat_of_zero_le h0
  rw [ofInt_R k (by omega), Int.toNat_natCast]
  exact ⟨R.self _, rg_int_mono (by omega)⟩

theorem lt_infr {r n : Nat} (h : r ≤ rg n 0) (hn : n < 9007199254740992) : r < 9218868437227405312 := by
  have := (V_one n hn).2; omega

/-- one step -/
theorem smo_step {wt rest w' r' x prev p : Nat} {n : Nat} (hw : R wt w') (hr : R rest r') (lw : w' ≤ rg 1 0) (lr : r' ≤ rg 1 0) {k : Int} (hk0 : 0 ≤ k) (hk : k ≤ 1099511627776) (hx : x = floatOfInt .f64 k)
    (hp : R prev p) (lp : p ≤ rg (1099511627776 * n) 0) (hn : n ≤ 4096) :
    double.mul wt x = some (mu wt x) ∧ double.mul rest prev = some (mu rest prev) ∧ double.add (mu wt x) (mu rest prev) = some (pl (mu wt x) (mu rest prev)) ∧
      ∃ q, R (pl (mu wt x) (mu rest prev)) q ∧ q ≤ rg (1099511627776 * (n + 1)) 0 := by
  subst hx
  obtain ⟨hx, lx⟩ := fl_R hk0 hk
  obtain ⟨z1, e1, r1⟩ := mul_R hw hx (lt_infr lw (by omega)) (lt_infr lx (by omega))
  obtain ⟨z2, e2, r2⟩ := mul_R hr hp (lt_infr lr (by omega)) (lt_infr lp (by omega))
  have b1 : mulr w' (rg k.toNat 0) ≤ rg 1099511627776 0 := by
    have := mulr_mono lw lx
    rw [mulr_int (by omega) (by omega) (by omega), Nat.one_mul] at this; exact this
  have b2 : mulr r' p ≤ rg (1099511627776 * n) 0 := by
    have := mulr_mono lr lp
    rw [mulr_int (by omega) (by omega) (by omega), Nat.one_mul] at this; exact this
  obtain ⟨z3, e3, r3⟩ := add_R r1 r2 (lt_infr b1 (by omega)) (lt_infr b2 (by omega))
  have b3 : addr (mulr w' (rg k.toNat 0)) (mulr r' p) ≤ rg (1099511627776 * (n + 1)) 0 := by
    have := addr_mono b1 b2
    rw [addr_int (by omega) (by omega) (by omega)] at this
    rw [show 1099511627776 * (n + 1) = 1099511627776 + 1099511627776 * n by omega]; exact this
  have m1 : mu wt (floatOfInt .f64 k) = z1 := by unfold mu; rw [e1]; rfl
  have m2 : mu rest prev = z2 := by unfold mu; rw [e2]; rfl
  rw [m1, m2]
  have m3 : pl z1 z2 = z3 := by unfold pl; rw [e3]; rfl
  rw [m3]
  exact ⟨e1, e2, e3, _, r3, b3⟩

theorem smo_R {wt rest w' r' : Nat} {f : Nat → Int} {len : Nat} (hw : R wt w') (hr : R rest r') (lw : w' ≤ rg 1 0) (lr : r' ≤ rg 1 0) (hl : len ≤ 4096) (hf : ∀ i, i < len → 0 ≤ f i ∧ f i ≤ 1099511627776) :
    ∀ k, k < len → ∃ q, R (smo wt rest f k) q ∧ q ≤ rg (1099511627776 * (k + 1)) 0
  | 0, h => by
    have h0 := hf 0 h
    exact ⟨_, (fl_R h0.1 h0.2).1, (fl_R h0.1 h0.2).2⟩
  | k + 1, h => by
    obtain ⟨p, h1, h2⟩ := smo_R hw hr lw lr hl hf k (by omega)
    have h0 := hf (k + 1) h
    exact (smo_step hw hr lw lr h0.1 h0.2 rfl h1 h2 (by omega)).2.2.2

/-- what the walk asks of a round -/
theorem smo_ops {wt rest w' r' : Nat} {f : Nat → Int} {len : Nat} (hw : R wt w') (hr : R rest r') (lw : w' ≤ rg 1 0) (lr : r' ≤ rg 1 0) (hl : len ≤ 4096) (hf : ∀ i, i < len → 0 ≤ f i ∧ f i ≤ 1099511627776) (k : Nat) (h : k + 1 < len) :
    double.mul wt (floatOfInt .f64 (f (k + 1))) = some (mu wt (floatOfInt .f64 (f (k + 1)))) ∧ double.mul rest (smo wt rest f k) = some (mu rest (smo wt rest f k)) ∧
      double.add (mu wt (floatOfInt .f64 (f (k + 1)))) (mu rest (smo wt rest f k)) = some (smo wt rest f (k + 1)) := by
  obtain ⟨p, h1, h2⟩ := smo_R hw hr lw lr hl hf k (by omega)
  have h0 := hf (k + 1) h
  have hs := smo_step hw hr lw lr h0.1 h0.2 rfl h1 h2 (by omega)
  exact ⟨hs.1, hs.2.1, hs.2.2.1⟩
theorem smo_order {wt rest w' r' : Nat} {f : Nat → Int} {len : Nat} (hw : R wt w') (hr : R rest r') (lw : w' ≤ rg 1 0) (lr : r' ≤ rg 1 0) (hl : len ≤ 4096) (hf : ∀ i, i < len → 0 ≤ f i ∧ f i ≤ 1099511627776) (k : Nat) (h : k < len) :
    double.order (smo wt rest f k) (smo wt rest f k) = some .eq := by
  obtain ⟨p, h1, h2⟩ := smo_R hw hr lw lr hl hf k h
  have hp := lt_infr h2 (by omega)
  rw [order_R h1 hp h1 hp, ncompare_self]

/-- a weight that may be one, and what is left -/
theorem weight_R {wt : Nat} (hx : wt < 18446744073709551616) (h0 : double.order wt 0 = some .gt) (h1 : double.order wt 4607182418800017408 = some .lt ∨ double.order wt 4607182418800017408 = some .eq) :
    ∃ w' r', R wt w' ∧ w' ≤ rg 1 0 ∧ double.sub 4607182418800017408 wt = some (mi 4607182418800017408 wt) ∧ R (mi 4607182418800017408 wt) r' ∧ r' ≤ rg 1 0 := by
  obtain ⟨w', hw, lw⟩ := good_R hx (by omega) (.inl h0) h1
  have hR1 : R 4607182418800017408 (rg 1 0) := by rw [rg1]; exact R.self _
  rw [← rg1] at lw
  have l1 : rg 1 0 < 9218868437227405312 := by rw [rg1]; omega
  obtain ⟨z, e, hz⟩ := sub_R hR1 hw l1 (by omega) lw
  have m : mi 4607182418800017408 wt = z := by unfold mi; rw [e]; rfl
  rw [m]
  exact ⟨w', _, hw, lw, e, hz, subr_le⟩
end Go.Proofs.Ytomcdnkafgmleaa.F
