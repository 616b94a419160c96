/- What PlanWhole asks: whole numbers: the contracts of Smooth, Quarters and Stats, their values known. -/
import Derived.Test.YtomcdnkafgmleaaQ7
import Derived.Test.YtomcdnkafgmleaaF6
namespace Go.Proofs.Ytomcdnkafgmleaa
open Go.RowKit

theorem sum_like (c : Int) : ∀ m : Nat, sumTo (fun _ => c) m = (m : Int) * c
  | 0 => by simp [sumTo]
  | m + 1 => by simp only [sumTo, sum_like c m]; rw [show ((m + 1 : Nat) : Int) = (m : Int) + 1 by omega, Int.add_mul, Int.one_mul]

theorem mean_like (c m : Nat) (hc : c ≤ 255) (hm : 0 < m) (hm2 : m ≤ 256) : meanTo (fun _ => (c : Int)) m = floatOfInt .f64 (c : Int) := by
  have hmc : m * c ≤ 256 * 255 := Nat.mul_le_mul hm2 hc
  unfold meanTo
  rw [sum_like, ← Int.natCast_mul, F.ofInt_R _ (by omega), F.ofInt_R m (by omega), F.ofInt_R c (by omega)]
  unfold dv
  rw [F.div_exact m c hm (by omega) (by omega) (by omega)]; rfl
theorem sb_same (c : Nat) (hc : c ≤ 255) : sb (floatOfInt .f64 (c : Int)) (floatOfInt .f64 (c : Int)) = 0 := by
  unfold sb
  rw [F.ofInt_R c (by omega), F.sub_self_num (F.read_pos (F.V_one c (by omega)).2)]; rfl
theorem sq_like (c : Nat) (hc : c ≤ 255) : ∀ k, sqTo (fun _ => (c : Int)) (floatOfInt .f64 (c : Int)) k = 0
  | 0 => rfl
  | k + 1 => by
    simp only [sqTo, sq_like c hc k, sb_same c hc]
    have h1 : sq 0 = 0 := by unfold sq; decide +kernel
    have h2 : ad 0 0 = 0 := by unfold ad; decide +kernel
    rw [h1, h2]
theorem dev_like (c m : Nat) (hc : c ≤ 255) (hm : 0 < m) (hm2 : m ≤ 256) : devTo (fun _ => (c : Int)) m = 0 := by
  unfold devTo
  rw [mean_like c m hc hm hm2, sq_like c hc, F.ofInt_R m (by omega)]
  have h1 := F.div_exact m 0 hm (by omega) (by omega) (by omega)
  rw [Nat.mul_zero, F.rg_zero] at h1
  unfold dv
  rw [h1]
  have h2 : rt 0 = 0 := by unfold rt; decide +kernel
  exact h2

theorem mem_getD {h : List Int} {k : Nat} (hk : k < h.length) : h.getD k 0 ∈ h := by rw [List.getD_eq_getElem?_getD, List.getElem?_eq_getElem hk]; exact List.getElem_mem hk
theorem bytes_ok {h : List Int} (hb : ∀ x ∈ h, 0 ≤ x ∧ x ≤ 255) : h.all okN = true := List.all_eq_true.2 fun x hx => (okN_iff x).2 (by have := hb x hx; omega)
theorem bytes_code {h : List Int} (hb : ∀ x ∈ h, 0 ≤ x ∧ x ≤ 255) (hl : h.length ≤ 4096) : fcode h = 0 := by
  unfold fcode; rw [if_neg (by omega), bytes_ok hb]; rfl

theorem whole_fault {h : List Int} (hb : ∀ x ∈ h, 0 ≤ x ∧ x ≤ 255) (hl : h.length ≤ 4096) (v : Value) (w : World) (hv : Ints w v h) : Calls Try.prog 48 #[v] w fun e w' => e = .returned (.int .i64 0) ∧ w = w' := by
  have := (fault_any v h w hv).1
  rw [bytes_code hb hl] at this; exact this

/-- Smooth with a weight that leaves whole numbers whole -/
theorem whole_smooth (h : List Int) (wt rest w' r' : Nat) (hb : ∀ x ∈ h, 0 ≤ x ∧ x ≤ 255) (hl : h.length ≤ 4096)
    (hg : (FloatKind.f64.format.order wt 0 == some .gt) = true) (hle : (FloatKind.f64.format.order wt 4607182418800017408 == some .lt || FloatKind.f64.format.order wt 4607182418800017408 == some .eq) = true)
    (e1 : Ieee.double.sub 4607182418800017408 wt = some rest) (hw : F.R wt w') (hr : F.R rest r') (lw : w' ≤ F.rg 1 0) (lr : r' ≤ F.rg 1 0)
    (hsm : ∀ k, k < h.length → F.R (F.smo wt rest (fun i => h.getD i 0) k) (F.rg (h.getD k 0).toNat 0)) (v : Value) (w : World) (hv : Ints w v h) :
    Calls Try.prog 24 #[v, .float .f64 wt] w fun e w2 => ∃ s f, e = .returned (.tuple #[s, .int .i64 0]) ∧ Floats w2 s h.length f ∧ (∀ i, i < h.length → Ieee.double.order (f i) (floatOfInt .f64 (h.getD i 0)) = some .eq) ∧ Below w.heap.size w w2 := by
  have ho : ∀ i, i < h.length → Ieee.double.order (F.smo wt rest (fun i => h.getD i 0) i) (floatOfInt .f64 (h.getD i 0)) = some .eq := fun i hi => by
    have hx := hb _ (mem_getD hi)
    have h1 := F.fl_R hx.1 (by omega : h.getD i 0 ≤ 1099511627776)
    have hlt := F.lt_infr h1.2 (by omega)
    rw [F.order_R (hsm i hi) hlt h1.1 hlt, F.ncompare_self]
  have fin : ∀ (e : Ending) (w2 : World), SmoOut w wt rest (fun i => h.getD i 0) h.length e w2 → ∃ s f, e = .returned (.tuple #[s, .int .i64 0]) ∧ Floats w2 s h.length f ∧ (∀ i, i < h.length → Ieee.double.order (f i) (floatOfInt .f64 (h.getD i 0)) = some .eq) ∧ Below w.heap.size w w2 := by
    rintro e w2 ⟨s, rfl, own, bel⟩
    exact ⟨s, _, rfl, floats_own own hl, ho, bel⟩
  have q1 := whole_fault hb hl v w hv
  have hok : ∀ i, i < h.length → 0 ≤ h.getD i 0 ∧ h.getD i 0 ≤ 1099511627776 := fun i hi => by have := hb _ (mem_getD hi); omega
  rcases hv with ⟨a, cap, rfl, rfl⟩ | ⟨b, off, cap, h1, hm, rfl, hcell⟩
  · exact (smooth_empty a cap wt rest (fun i => ([] : List Int).getD i 0) w q1 hg hle e1).mono fin
  · have hbl : b < w.heap.size := World.block_lt_of_cell? w ⟨b, off + 0, none⟩ (hcell 0 h1)
    exact (smooth_ok b off h.length cap _ wt rest w' r' w h1 hl hbl hcell hok q1 hg hle e1 hw hr lw lr).mono fin

theorem whole_smooth1 (h : List Int) (hb : ∀ x ∈ h, 0 ≤ x ∧ x ≤ 255) (hl : h.length ≤ 4096) (v : Value) (w : World) (hv : Ints w v h) :
    Calls Try.prog 24 #[v, .float .f64 4607182418800017408] w fun e w2 => ∃ s f, e = .returned (.tuple #[s, .int .i64 0]) ∧ Floats w2 s h.length f ∧ (∀ i, i < h.length → Ieee.double.order (f i) (floatOfInt .f64 (h.getD i 0)) = some .eq) ∧ Below w.heap.size w w2 :=
  whole_smooth h 4607182418800017408 _ (F.rg 1 0) 0 hb hl (by decide +kernel) (by decide +kernel) F.mi_one.2 (by rw [F.rg1]; exact F.R.self _) F.mi_one.1 (Nat.le_refl _) (Nat.zero_le _)
    (fun k hk => F.smo_one hl (fun i hi => by have := hb _ (mem_getD hi); omega) k hk) v w hv

theorem whole_smooth5 (c m : Nat) (hc : c ≤ 255) (hm2 : m ≤ 256) (v : Value) (w : World) (hv : Ints w v (List.replicate m (c : Int))) :
    Calls Try.prog 24 #[v, .float .f64 4602678819172646912] w fun e w2 => ∃ s f, e = .returned (.tuple #[s, .int .i64 0]) ∧ Floats w2 s m f ∧ (∀ i, i < m → Ieee.double.order (f i) (floatOfInt .f64 (c : Int)) = some .eq) ∧ Below w.heap.size w w2 := by
  have hg : ∀ k, k < (List.replicate m (c : Int)).length → (List.replicate m (c : Int)).getD k 0 = (c : Int) := fun k hk => by
    simp at hk
    simp [List.getD_eq_getElem?_getD, hk]
  have hsm : ∀ k, k < (List.replicate m (c : Int)).length → F.R (F.smo F.half (F.mi 4607182418800017408 F.half) (fun i => (List.replicate m (c : Int)).getD i 0) k) (F.rg ((List.replicate m (c : Int)).getD k 0).toNat 0) := by
    intro k hk
    have e : F.smo F.half (F.mi 4607182418800017408 F.half) (fun i => (List.replicate m (c : Int)).getD i 0) k = F.smo F.half (F.mi 4607182418800017408 F.half) (fun _ => (c : Int)) k := by
      have all : ∀ j, j ≤ k → F.smo F.half (F.mi 4607182418800017408 F.half) (fun i => (List.replicate m (c : Int)).getD i 0) j = F.smo F.half (F.mi 4607182418800017408 F.half) (fun _ => (c : Int)) j := by
        intro j hj
        induction j with
        | zero => simp only [F.smo]; rw [hg 0 (by omega)]
        | succ j ih => simp only [F.smo]; rw [hg (j + 1) (by omega), ih (by omega)]
      exact all k (Nat.le_refl _)
    rw [e, hg k hk]
    exact F.smo_half (len := m) (by omega) (by omega) (by omega) k (by simpa using hk)
  refine (whole_smooth (List.replicate m (c : Int)) F.half _ F.half F.half (fun x hx => by have := List.eq_of_mem_replicate hx; omega) (by simp; omega) (by decide +kernel) (by decide +kernel) F.mi_half.2 (F.R.self _) F.mi_half.1 F.half_le F.half_le hsm v w hv).mono ?_
  rintro e w2 ⟨s, f, h1, h2, h3, h4⟩
  rw [List.length_replicate] at h2 h3
  exact ⟨s, f, h1, h2, fun i hi => by have := h3 i hi; rwa [hg i (by simpa using hi)] at this, h4⟩

theorem whole_stats (c m : Nat) (hc : c ≤ 255) (hm : 0 < m) (hm2 : m ≤ 256) (v : Value) (w : World) (hv : Ints w v (List.replicate m (c : Int))) :
    Calls Try.prog 22 #[v] w fun e w' => e = .returned (.tuple #[.float .f64 (floatOfInt .f64 (c : Int)), .float .f64 0, .int .i64 0]) ∧ w = w' := by
  have q1 := whole_fault (h := List.replicate m (c : Int)) (fun x hx => by have := List.eq_of_mem_replicate hx; omega) (by simp; omega) v w hv
  rcases hv with ⟨a, cap, rfl, hx⟩ | ⟨b, off, cap, h1, hmm, rfl, hcell⟩
  · have := congrArg List.length hx; simp at this; omega
  · rw [List.length_replicate] at h1 hmm hcell q1 ⊢
    have hg : ∀ k, k < m → (List.replicate m (c : Int)).getD k 0 = (c : Int) := fun k hk => by simp [List.getD_eq_getElem?_getD, hk]
    have := stats_ok b off m cap (fun _ => (c : Int)) w h1 (by omega) (fun i hi => by rw [hcell i hi, hg i hi]) (fun i hi => by omega) q1
    rw [mean_like c m hc hm hm2, dev_like c m hc hm hm2] at this
    exact this

theorem whole_quarters (h : List Int) (hb : ∀ x ∈ h, 0 ≤ x ∧ x ≤ 255) (hl : h.length ≤ 4096) (v : Value) (w : World) (hv : Ints w v h) :
    Calls Try.prog 26 #[v] w fun e w' => e = .returned (.tuple #[quartersP (fun i => h.getD i 0) h.length, .int .i64 0]) ∧ Below w.heap.size w w' := by
  have q1 : ∀ w1, Below w.heap.size w w1 → Calls Try.prog 48 #[v] w1 fun e w' => e = .returned (.int .i64 0) ∧ w1 = w' := fun w1 hbl => whole_fault hb hl v w1 (hv.below hbl)
  have hok : ∀ i, i < h.length → 0 ≤ h.getD i 0 ∧ h.getD i 0 ≤ 1099511627776 := fun i hi => by have := hb _ (mem_getD hi); omega
  rcases hv with ⟨a, cap, rfl, rfl⟩ | ⟨b, off, cap, h1, hm, rfl, hcell⟩
  · exact quarters_nil a cap w q1
  · have hbl : b < w.heap.size := World.block_lt_of_cell? w ⟨b, off + 0, none⟩ (hcell 0 h1)
    exact quarters_ok b off h.length cap _ w hl (fun _ => hbl) hcell hok q1

/-- moved on by one place -/
theorem cn_moved (h : List Int) (r : Nat) (hr : r < 4) : ∀ k, cn (fun i => (0 :: h).getD i 0) r (k + 1) = cn (fun i => h.getD i 0) ((r + 3) % 4) k
  | 0 => by simp [cn]
  | k + 1 => by
    have ih := cn_moved h r hr k
    have e : cn (fun i => (0 :: h).getD i 0) r (k + 1 + 1) = cn (fun i => (0 :: h).getD i 0) r (k + 1) + (if (k + 1) % 4 = r then h.getD k 0 else 0) := by simp [cn]
    rw [e, ih]
    simp only [cn]
    by_cases g : (k + 1) % 4 = r
    · rw [if_pos g, if_pos (by omega)]
    · rw [if_neg g, if_neg (by omega)]
theorem cn_sum (f : Nat → Int) : ∀ k, cn f 0 k + cn f 1 k + cn f 2 k + cn f 3 k = sumTo f k
  | 0 => rfl
  | k + 1 => by
    have ih := cn_sum f k
    simp only [cn, sumTo]
    rcases (by omega : k % 4 = 0 ∨ k % 4 = 1 ∨ k % 4 = 2 ∨ k % 4 = 3) with h | h | h | h <;> simp [h] <;> omega
end Go.Proofs.Ytomcdnkafgmleaa
