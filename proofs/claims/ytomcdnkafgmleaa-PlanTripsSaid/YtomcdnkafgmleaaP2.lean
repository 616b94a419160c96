/- plan.Point and the document's come to the same; what it is where all is well. -/
import Derived.Test.YtomcdnkafgmleaaP1
namespace Go.Proofs.Ytomcdnkafgmleaa
open Go.RowKit

namespace F
theorem rg9 : rg 1000000000 0 = 4741671816366391296 := by decide +kernel
theorem rg10 : rg 10 0 = 4621819117588971520 := by decide +kernel
theorem rg32 : rg 32 0 = 4629700416936869888 := by decide +kernel

/-- the root of a lead -/
theorem root_R (L : Nat) (h : L ≤ 1000) : ∃ s, Ieee.double.sqrt (floatOfInt .f64 (L : Int)) = some s ∧ s ≤ 4629700416936869888 := by
  have h1 : rootOk L = true := List.all_eq_true.1 roots_ok L (List.mem_range.2 (by omega))
  unfold rootOk at h1
  have e : Ieee.double.nearest false L 0 = floatOfInt .f64 (L : Int) := by
    rw [ofInt_R L (by omega), nearest_pos]
    have := (V_one L (by omega)).2
    omega
  rw [e] at h1
  split at h1
  · rename_i s hs; exact ⟨s, hs, of_decide_eq_true h1⟩
  · cases h1
end F

/-- the rung of what Point rounds up -/
def ptr (m d z l s : Nat) : Nat := F.addr (F.mulr m l) (F.mulr (F.mulr z d) s)

/-- everything that Point reckons, where all is well -/
structure PointOk (mean dev z : Nat) (L m d zr s zd sp ml tot : Nat) : Prop where
  rm : F.R mean m
  rd : F.R dev d
  rz : F.R z zr
  lm : m ≤ F.rg 1000000000 0
  ld : d ≤ F.rg 1000000000 0
  lz : zr ≤ F.rg 10 0
  ls : s ≤ F.rg 32 0
  hL : L ≤ 1000
  e1 : Ieee.double.sqrt (floatOfInt .f64 (L : Int)) = some s
  e2 : Ieee.double.mul z dev = some zd
  e3 : Ieee.double.mul zd s = some sp
  e4 : Ieee.double.mul mean (floatOfInt .f64 (L : Int)) = some ml
  e5 : Ieee.double.add ml sp = some tot
  rt : F.R tot (ptr m d zr (F.rg L 0) s)
  lt : ptr m d zr (F.rg L 0) s ≤ F.rg 1320000000000 0

theorem lt_inf {r n : Nat} (h : r ≤ F.rg n 0) (hn : n < 9007199254740992) : r < 9218868437227405312 := by
  have := (F.V_one n hn).2; omega

theorem pointOk {mean dev z : Nat} {L m d zr : Nat} (rm : F.R mean m) (rd : F.R dev d) (rz : F.R z zr) (lm : m ≤ F.rg 1000000000 0) (ld : d ≤ F.rg 1000000000 0) (lz : zr ≤ F.rg 10 0) (hL : L ≤ 1000) :
    ∀ s, Ieee.double.sqrt (floatOfInt .f64 (L : Int)) = some s → s ≤ 4629700416936869888 → ∃ zd sp ml tot, PointOk mean dev z L m d zr s zd sp ml tot := by
  intro s e1 ls
  rw [← F.rg32] at ls
  have im := lt_inf lm (by omega)
  have id := lt_inf ld (by omega)
  have iz := lt_inf lz (by omega)
  have is := lt_inf ls (by omega)
  have il := (F.V_one L (by omega)).2
  obtain ⟨zd, e2, r2⟩ := F.mul_R rz rd iz id
  have b2 : F.mulr zr d ≤ F.rg 10000000000 0 := by
    have := F.mulr_mono lz ld
    rw [F.mulr_int (by omega) (by omega) (by omega)] at this; exact this
  obtain ⟨sp, e3, r3⟩ := F.mul_R r2 (F.R.self s) (lt_inf b2 (by omega)) is
  have b3 : F.mulr (F.mulr zr d) s ≤ F.rg 320000000000 0 := by
    have := F.mulr_mono b2 ls
    rw [F.mulr_int (by omega) (by omega) (by omega)] at this; exact this
  have hl : F.R (floatOfInt .f64 (L : Int)) (F.rg L 0) := by rw [F.ofInt_R L (by omega)]; exact F.R.self _
  obtain ⟨ml, e4, r4⟩ := F.mul_R rm hl im il
  have b4 : F.mulr m (F.rg L 0) ≤ F.rg 1000000000000 0 := by
    have := F.mulr_mono lm (F.rg_int_mono hL)
    rw [F.mulr_int (by omega) (by omega) (by omega)] at this; exact this
  obtain ⟨tot, e5, r5⟩ := F.add_R r4 r3 (lt_inf b4 (by omega)) (lt_inf b3 (by omega))
  have b5 : ptr m d zr (F.rg L 0) s ≤ F.rg 1320000000000 0 := by
    have := F.addr_mono b4 b3
    rw [F.addr_int (by omega) (by omega) (by omega)] at this; exact this
  exact ⟨zd, sp, ml, tot, rm, rd, rz, lm, ld, lz, ls, hL, e1, e2, e3, e4, e5, r5, b5⟩

theorem good_of {x M : Nat} (hx : x < 18446744073709551616) (hM : M < 9218868437227405312) (h : (ge0 x && leM x M) = true) : ∃ r, F.R x r ∧ r ≤ M := by
  simp only [Bool.and_eq_true, ge0, leM, Bool.or_eq_true, beq_iff_eq] at h
  exact F.good_R hx hM h.1 h.2
theorem of_good {x r M : Nat} (h : F.R x r) (hr : r ≤ M) (hM : M < 9218868437227405312) : (ge0 x && leM x M) = true := by
  simp only [Bool.and_eq_true, ge0, leM, Bool.or_eq_true, beq_iff_eq]
  have h0 : Ieee.double.order x 0 = some (compare r 0) := F.order_R h (by omega) (F.R.self 0) (by omega)
  have h1 : Ieee.double.order x M = some (compare r M) := F.order_R h (by omega) (F.R.self M) hM
  refine ⟨?_, ?_⟩
  · show Ieee.double.order x 0 = _ ∨ Ieee.double.order x 0 = _
    rw [h0]
    rcases (by omega : 0 < r ∨ r = 0) with g | g
    · left; rw [Nat.compare_eq_gt.2 g]
    · right; rw [Nat.compare_eq_eq.2 g]
  · show Ieee.double.order x M = _ ∨ Ieee.double.order x M = _
    rw [h1]
    rcases (by omega : r < M ∨ r = M) with g | g
    · left; rw [Nat.compare_eq_lt.2 g]
    · right; rw [Nat.compare_eq_eq.2 g]

theorem toIntVal_R {x r : Nat} (h : F.R x r) (hr : r < 9218868437227405312) (hf : F.floorv r ≤ 9007199254740992) : floatToIntVal .f64 x .i64 = some ((F.floorv r : Nat) : Int) := by
  unfold floatToIntVal
  show (match (Ieee.double.read x).toInt .zero with | some n => _ | none => _) = _
  rw [F.toInt_R h hr]
  have h1 : IntKind.i64.min = -9223372036854775808 := by decide
  have h2 : IntKind.i64.max = 9223372036854775807 := by decide
  simp only [h1, h2]
  rw [if_pos (by omega)]

theorem ceil_of {r : Nat} (hb : F.ceilv r < 9007199254740992) : (if (compare (F.rg (F.floorv r) 0) r == .lt) = true then ((F.floorv r : Nat) : Int) + 1 else ((F.floorv r : Nat) : Int)) = ((F.ceilv r : Nat) : Int) := by
  have hf := F.floor_le_ceil r
  have hv := (F.V_one (F.floorv r) (by omega)).1
  have hd := Nat.div_add_mod (F.V r) F.one
  have he : F.one * (F.V r / F.one) = F.floorv r * F.one := by unfold F.floorv; exact Nat.mul_comm _ _
  rw [he, ← hv] at hd
  by_cases h0 : F.V r % F.one = 0
  · rw [h0, Nat.add_zero] at hd
    have e := F.V_inj hd
    rw [e, show compare r r = Ordering.eq from F.ncompare_self r]
    have : F.ceilv r = F.floorv r := by unfold F.ceilv F.floorv; rw [if_pos h0]; rfl
    rw [this]; simp
  · have hlt : F.rg (F.floorv r) 0 < r := by
      rcases Nat.lt_or_ge (F.rg (F.floorv r) 0) r with g | g
      · exact g
      · have := F.V_le g; omega
    rw [Nat.compare_eq_lt.2 hlt]
    have : F.ceilv r = F.floorv r + 1 := by unfold F.ceilv F.floorv; rw [if_neg h0]
    rw [this]; simp

/-- Point, where all is well -/
theorem PointOk.calls {mean dev z L m d zr s zd sp ml tot : Nat} (h : PointOk mean dev z L m d zr s zd sp ml tot) (w : World) :
    (Calls Try.prog 30 #[.agg #[.float .f64 mean, .float .f64 dev, .float .f64 z, .int .i64 (L : Int)]] w fun e w' => e = .returned (.tuple #[.int .i64 ((F.ceilv (ptr m d zr (F.rg L 0) s) : Nat) : Int), .int .i64 0]) ∧ Below w.heap.size w w') ∧
    (Calls Try.prog 31 #[.agg #[.float .f64 mean, .float .f64 dev, .float .f64 z, .int .i64 (L : Int)]] w fun e w' => e = .returned (.tuple #[.int .i64 ((F.ceilv (ptr m d zr (F.rg L 0) s) : Nat) : Int), .int .i64 0]) ∧ Below w.heap.size w w') := by
  obtain ⟨rm, rd, rz, lm, ld, lz, ls, hL, e1, e2, e3, e4, e5, rt, lt⟩ := h
  have it := lt_inf lt (by omega)
  have hc := F.ceilv_le (by omega) lt
  have hf := F.floor_le_ceil (ptr m d zr (F.rg L 0) s)
  generalize ptr m d zr (F.rg L 0) s = r at rt lt it hc hf
  have gm := of_good rm (by rw [← F.rg9]; exact lm : m ≤ 4741671816366391296) (by omega)
  have gd := of_good rd (by rw [← F.rg9]; exact ld : d ≤ 4741671816366391296) (by omega)
  have gz := of_good rz (by rw [← F.rg10]; exact lz : zr ≤ 4621819117588971520) (by omega)
  have nn : ∀ s t, Ieee.double.read tot ≠ .nan s t := by
    obtain ⟨s, h1, _⟩ := rt.read it
    intro a b h2; rw [h1] at h2; cases h2
  have h7 : floatToIntVal .f64 (Ieee.double.write ((Ieee.double.read tot).integral .up)) .i64 = some ((F.ceilv r : Nat) : Int) := by
    have := toIntVal_R (F.ceil_R rt it (by omega)) ((F.V_one _ (by omega)).2) (by rw [F.floorv_int (by omega)]; omega)
    rw [F.floorv_int (by omega)] at this
    exact this
  have h8 := toIntVal_R rt it (by omega)
  have h9 : Ieee.double.order (floatOfInt .f64 ((F.floorv r : Nat) : Int)) tot = some (compare (F.rg (F.floorv r) 0) r) := by
    rw [F.ofInt_R _ (by omega)]
    exact F.order_R (F.R.self _) (F.V_one _ (by omega)).2 rt it
  refine ⟨point_walk mean dev z L s zd sp ml tot _ w gm gd gz (by omega) (by omega) e1 e2 e3 e4 e5 nn h7,
    pointref_walk mean dev z L s zd sp ml tot _ _ _ w gm gd gz (by omega) (by omega) e1 e2 e3 e4 e5 h8 rfl (by omega) (by omega) ?_⟩
  rw [h9]
  exact (ceil_of (by omega)).symm

/-- two Points are one -/
theorem point_any (mean dev z : Nat) (lead : Int) (hm : mean < 18446744073709551616) (hd : dev < 18446744073709551616) (hz : z < 18446744073709551616) :
    ∃ n c : Int, ∀ w : World, (Calls Try.prog 30 #[.agg #[.float .f64 mean, .float .f64 dev, .float .f64 z, .int .i64 lead]] w fun e w' => e = .returned (.tuple #[.int .i64 n, .int .i64 c]) ∧ Below w.heap.size w w') ∧
      (Calls Try.prog 31 #[.agg #[.float .f64 mean, .float .f64 dev, .float .f64 z, .int .i64 lead]] w fun e w' => e = .returned (.tuple #[.int .i64 n, .int .i64 c]) ∧ Below w.heap.size w w') := by
  cases gm : (ge0 mean && leM mean 4741671816366391296)
  · exact ⟨0, 172, fun w => ⟨point_bad0 mean dev z lead w gm, pointref_bad0 mean dev z lead w gm⟩⟩
  cases gd : (ge0 dev && leM dev 4741671816366391296)
  · exact ⟨0, 172, fun w => ⟨point_bad1 mean dev z lead w gm gd, pointref_bad1 mean dev z lead w gm gd⟩⟩
  cases gz : (ge0 z && leM z 4621819117588971520)
  · exact ⟨0, 172, fun w => ⟨point_bad2 mean dev z lead w gm gd gz, pointref_bad2 mean dev z lead w gm gd gz⟩⟩
  by_cases hl : 0 ≤ lead ∧ lead ≤ 1000
  · obtain ⟨L, rfl⟩ := Int.eq_ofNat_of_zero_le hl.1
    obtain ⟨m, rm, lm⟩ := good_of hm (by omega) gm
    obtain ⟨d, rd, ld⟩ := good_of hd (by omega) gd
    obtain ⟨zr, rz, lz⟩ := good_of hz (by omega) gz
    obtain ⟨s, e1, ls⟩ := F.root_R L (by omega)
    obtain ⟨zd, sp, ml, tot, h⟩ := pointOk rm rd rz (by rw [F.rg9]; exact lm) (by rw [F.rg9]; exact ld) (by rw [F.rg10]; exact lz) (by omega : L ≤ 1000) s e1 ls
    exact ⟨_, _, fun w => h.calls w⟩
  · exact ⟨0, 172, fun w => ⟨point_bad3 mean dev z lead w gm gd gz hl, pointref_bad3 mean dev z lead w gm gd gz hl⟩⟩
end Go.Proofs.Ytomcdnkafgmleaa
