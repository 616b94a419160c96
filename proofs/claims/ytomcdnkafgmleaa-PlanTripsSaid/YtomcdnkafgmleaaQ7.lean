/- The three reckonings of a history, each with the document's: one answer for both, whatever slice the history lies in. -/
import Derived.Test.YtomcdnkafgmleaaQ2
import Derived.Test.YtomcdnkafgmleaaQ3
import Derived.Test.YtomcdnkafgmleaaQ6
namespace Go.Proofs.Ytomcdnkafgmleaa
open Go.RowKit

theorem Ints.below {w w' : World} {v : Value} {h : List Int} (hv : Ints w v h) (hb : Below w.heap.size w w') : Ints w' v h := by
  rcases hv with ⟨a, cap, e, g⟩ | ⟨b, off, cap, h0, hm, e, hc⟩
  · exact .inl ⟨a, cap, e, g⟩
  · refine .inr ⟨b, off, cap, h0, hm, e, fun i hi => ?_⟩
    have hl := World.block_lt_of_cell? w ⟨b, off + i, none⟩ (hc i hi)
    rw [hb.cell (p := ⟨b, off + i, none⟩) hl]; exact hc i hi
theorem Floats.below {w w' : World} {v : Value} {n : Nat} {f : Nat → Nat} (hv : Floats w v n f) (hb : Below w.heap.size w w') : Floats w' v n f := by
  rcases hv with ⟨a, cap, e, g⟩ | ⟨b, off, cap, h0, hm, e, hc⟩
  · exact .inl ⟨a, cap, e, g⟩
  · refine .inr ⟨b, off, cap, h0, hm, e, fun i hi => ?_⟩
    have hl := World.block_lt_of_cell? w ⟨b, off + i, none⟩ (hc i hi)
    rw [hb.cell (p := ⟨b, off + i, none⟩) hl]; exact hc i hi
theorem cell_below {w w' : World} {a : Addr} {u : Value} (h : w.cell? a = some u) (hb : Below w.heap.size w w') : w'.cell? a = some u := by
  rw [hb.cell (p := a) (World.block_lt_of_cell? w a h)]; exact h
theorem floats_own {w : World} {base : Nat} {v : Value} {n : Nat} {wt rest : Nat} {f : Nat → Int} (h : w.ownsRow base 22 1 v n (smoV wt rest f n)) (hn : n ≤ 4096) : Floats w v n (F.smo wt rest f) := by
  rcases own_vals h (by omega) with ⟨a, cap, e, g⟩ | ⟨b, off, cap, h0, hm, e, hc⟩
  · have := smoV_len wt rest f n
    rw [g] at this
    exact .inl ⟨a, cap, e, this.symm⟩
  · rw [smoV_len] at h0 hm e hc
    exact .inr ⟨b, off, cap, h0, hm, e, fun i hi => by rw [hc i hi, smoV_get wt rest f hi]⟩

theorem fcode_ne {h : List Int} (hc : fcode h ≠ 0) : (fcode h != 0) = true := by simpa using hc
theorem fcode_zero {h : List Int} (hc : fcode h = 0) : h.length ≤ 4096 ∧ h.all okN = true := by
  unfold fcode at hc
  split at hc
  · omega
  · split at hc
    · exact ⟨by omega, by assumption⟩
    · omega

/-- Stats: one answer -/
theorem stats_any (h : List Int) : ∃ (a b : Nat) (c : Int), Ieee.double.order a a = some .eq ∧ Ieee.double.order b b = some .eq ∧ ∀ v w, Ints w v h →
    (Calls Try.prog 22 #[v] w fun e w' => e = .returned (.tuple #[.float .f64 a, .float .f64 b, .int .i64 c]) ∧ w = w') ∧ (Calls Try.prog 23 #[v] w fun e w' => e = .returned (.tuple #[.float .f64 a, .float .f64 b, .int .i64 c]) ∧ w = w') := by
  by_cases hc : fcode h = 0
  · obtain ⟨hl, hall⟩ := fcode_zero hc
    by_cases h0 : h = []
    · refine ⟨0, 0, 0, by decide, by decide, fun v w hv => ?_⟩
      subst h0
      rcases hv with ⟨a, cap, rfl, _⟩ | ⟨b, off, cap, h1, _⟩
      · exact ⟨stats_empty a cap w (fault_empty a cap w), statsref_empty a cap w (history_empty a cap w)⟩
      · simp at h1
    · have hp : 0 < h.length := List.length_pos_iff.2 h0
      have hok : ∀ i, i < h.length → 0 ≤ h.getD i 0 ∧ h.getD i 0 ≤ 1099511627776 := fun i hi => okN_getD hall hi
      have M := mean_spec (fun i => h.getD i 0) h.length hp hl hok
      have D := dv_spec (sqTo_le (fun i => h.getD i 0) _ h.length M.2 hok h.length (Nat.le_refl _)) (float_nat (by omega : (0 : Int) ≤ (h.length : Int)) (by omega)) (float_ne hp (by omega))
      refine ⟨meanTo (fun i => h.getD i 0) h.length, devTo (fun i => h.getD i 0) h.length, 0, F.order_le M.2, F.order_le (rt_spec D.2).2, fun v w hv => ?_⟩
      rcases hv with ⟨a, cap, _, hx⟩ | ⟨b, off, cap, h1, hm, rfl, hcell⟩
      · exact absurd hx h0
      · have q1 : ∀ w : World, (∀ i, i < h.length → w.cell? ⟨b, off + i, none⟩ = some (.int .i64 (h.getD i 0))) → _ := fun w hcell => fault_ok b off h.length cap (fun i => h.getD i 0) w hl hcell hok
        have q2 : ∀ w : World, (∀ i, i < h.length → w.cell? ⟨b, off + i, none⟩ = some (.int .i64 (h.getD i 0))) → _ := fun w hcell => history_ok b off h.length cap (fun i => h.getD i 0) w hl hcell hok
        exact ⟨stats_ok b off h.length cap _ w hp hl hcell hok (q1 w hcell), statsref_ok b off h.length cap _ w hp hl hcell hok (q2 w hcell)⟩
  · exact ⟨0, 0, fcode h, by decide, by decide, fun v w hv => ⟨stats_stop v _ w (fault_any v h w hv).1 (fcode_ne hc), statsref_stop v _ w (fault_any v h w hv).2 (fcode_ne hc)⟩⟩

/-- Smooth: one answer -/
theorem smooth_any (h : List Int) (wt : Nat) (hwt : wt < 18446744073709551616) : ∃ (n : Nat) (f : Nat → Nat) (c : Int), (∀ i, i < n → Ieee.double.order (f i) (f i) = some .eq) ∧ ∀ v w, Ints w v h →
    (Calls Try.prog 24 #[v, .float .f64 wt] w fun e w' => ∃ s, e = .returned (.tuple #[s, .int .i64 c]) ∧ Floats w' s n f ∧ Below w.heap.size w w' ∧ ∀ k, s.ownBlock = some k → w.heap.size ≤ k) ∧ (Calls Try.prog 25 #[v, .float .f64 wt] w fun e w' => ∃ s, e = .returned (.tuple #[s, .int .i64 c]) ∧ Floats w' s n f ∧ Below w.heap.size w w' ∧ ∀ k, s.ownBlock = some k → w.heap.size ≤ k) := by
  have nil : ∀ (c : Int) (w : World) (e : Ending) (w' : World), e = .returned (.tuple #[.slice none 0 0, .int .i64 c]) ∧ w = w' → ∃ s, e = .returned (.tuple #[s, .int .i64 c]) ∧ Floats w' s 0 (fun _ => 0) ∧ Below w.heap.size w w' ∧ ∀ k, s.ownBlock = some k → w.heap.size ≤ k := by
    rintro c w e w' ⟨rfl, rfl⟩
    exact ⟨_, rfl, .inl ⟨_, _, rfl, rfl⟩, Below.refl _ _, fun k hk => by cases hk⟩
  by_cases hc : fcode h = 0
  · have hf : ∀ v w, Ints w v h → (Calls Try.prog 48 #[v] w fun e w' => e = .returned (.int .i64 0) ∧ w = w') ∧ (Calls Try.prog 50 #[v] w fun e w' => e = .returned (.int .i64 0) ∧ w = w') := fun v w hv => by
      have := fault_any v h w hv
      rw [hc] at this; exact this
    cases hg : (FloatKind.f64.format.order wt 0 == some .gt)
    · exact ⟨0, fun _ => 0, 172, fun i hi => by omega, fun v w hv => ⟨(smooth_light v wt w (hf v w hv).1 (.inl hg)).mono fun e w' he => nil 172 w e w' he, (smoothref_light v wt w (hf v w hv).2 (.inl hg)).mono fun e w' he => nil 172 w e w' he⟩⟩
    cases hl : (FloatKind.f64.format.order wt 4607182418800017408 == some .lt || FloatKind.f64.format.order wt 4607182418800017408 == some .eq)
    · exact ⟨0, fun _ => 0, 172, fun i hi => by omega, fun v w hv => ⟨(smooth_light v wt w (hf v w hv).1 (.inr ⟨hg, hl⟩)).mono fun e w' he => nil 172 w e w' he, (smoothref_light v wt w (hf v w hv).2 (.inr ⟨hg, hl⟩)).mono fun e w' he => nil 172 w e w' he⟩⟩
    obtain ⟨hlen, hall⟩ := fcode_zero hc
    have hok : ∀ i, i < h.length → 0 ≤ h.getD i 0 ∧ h.getD i 0 ≤ 1099511627776 := fun i hi => okN_getD hall hi
    obtain ⟨w', r', hw, lw, e1, hr, lr⟩ := F.weight_R hwt (show Ieee.double.order wt 0 = some .gt from beq_iff_eq.1 hg) (by have := hl; rw [Bool.or_eq_true, beq_iff_eq, beq_iff_eq] at this; exact this)
    refine ⟨h.length, F.smo wt (F.mi 4607182418800017408 wt) (fun i => h.getD i 0), 0, fun i hi => F.smo_order hw hr lw lr hlen hok i hi, fun v w hv => ?_⟩
    have fin : ∀ (e : Ending) (w2 : World), SmoOut w wt (F.mi 4607182418800017408 wt) (fun i => h.getD i 0) h.length e w2 → ∃ s, e = .returned (.tuple #[s, .int .i64 0]) ∧ Floats w2 s h.length (F.smo wt (F.mi 4607182418800017408 wt) (fun i => h.getD i 0)) ∧ Below w.heap.size w w2 ∧ ∀ k, s.ownBlock = some k → w.heap.size ≤ k := by
      rintro e w2 ⟨s, rfl, own, bel⟩
      exact ⟨s, rfl, floats_own own hlen, bel, fun k hk => (own.lt k hk).1⟩
    obtain ⟨q1, q2⟩ := hf v w hv
    rcases hv with ⟨a, cap, rfl, rfl⟩ | ⟨b, off, cap, h1, hm, rfl, hcell⟩
    · exact ⟨(smooth_empty a cap wt _ (fun i => ([] : List Int).getD i 0) w q1 hg hl e1).mono fin, (smoothref_empty a cap wt _ (fun i => ([] : List Int).getD i 0) w q2 hg hl e1).mono fin⟩
    · have hb : b < w.heap.size := World.block_lt_of_cell? w ⟨b, off + 0, none⟩ (hcell 0 h1)
      exact ⟨(smooth_ok b off h.length cap _ wt _ w' r' w h1 hlen hb hcell hok q1 hg hl e1 hw hr lw lr).mono fin, (smoothref_ok b off h.length cap _ wt _ w' r' w h1 hlen hb hcell hok q2 hg hl e1 hw hr lw lr).mono fin⟩
  · exact ⟨0, fun _ => 0, fcode h, fun i hi => by omega, fun v w hv => ⟨(smooth_stop v wt _ w (fault_any v h w hv).1 (fcode_ne hc)).mono fun e w' he => nil _ w e w' he, (smoothref_stop v wt _ w (fault_any v h w hv).2 (fcode_ne hc)).mono fun e w' he => nil _ w e w' he⟩⟩

set_option maxRecDepth 100000 in
set_option maxHeartbeats 1000000 in
theorem quarters_nil (a : Option Addr) (cap : Nat) (w : World) (hq : ∀ w1, Below w.heap.size w w1 → Calls Try.prog 48 #[.slice a 0 cap] w1 fun e w' => e = .returned (.int .i64 0) ∧ w1 = w') :
    Calls Try.prog 26 #[.slice a 0 cap] w fun e w' => e = .returned (.tuple #[.agg #[.complex .f64 (floatOfInt .f64 0) (floatOfInt .f64 0), .complex .f64 (floatOfInt .f64 0) (floatOfInt .f64 0), .complex .f64 (floatOfInt .f64 0) (floatOfInt .f64 0), .complex .f64 (floatOfInt .f64 0) (floatOfInt .f64 0)], .int .i64 0]) ∧ Below w.heap.size w w' := by
  have Q := Lib.hid hq
  clear hq
  go_enter Try.func26, Try.ntmps26
  go_wp2_with fail
  refine (Q.out _ ((Below.refl _ _).alloc (Nat.le_refl _) _)).mono ?_
  rintro e w' ⟨rfl, rfl⟩
  go_wp2_with fail
  refine wp_loop_rounds 1 ?_
  rw [rounds_succ]
  go_wp2_with fail
  refine region_tail 51 (by kernel_rfl) (by kernel_rfl) ?_
  simp only [List.take_succ_cons, List.take_zero, List.drop_succ_cons, List.drop_zero]
  have s1 : IntKind.i64.wrap 0 = 0 := by decide
  repeat (first | still_step | still_call (number51' _ _ _))
  refine wpStill_nil ?_
  clear s1
  go_wp2_with fail
  refine bodyPost_ret (v := .tuple #[.agg #[.complex .f64 (floatOfInt .f64 0) (floatOfInt .f64 0), .complex .f64 (floatOfInt .f64 0) (floatOfInt .f64 0), .complex .f64 (floatOfInt .f64 0) (floatOfInt .f64 0), .complex .f64 (floatOfInt .f64 0) (floatOfInt .f64 0)], .int .i64 0]) (by simp [results, Try.results26, go_sem]) rfl ⟨rfl, ?_⟩
  exact (bel2 _ _ _).drew
set_option maxRecDepth 100000 in
theorem quartersref_nil (a : Option Addr) (cap : Nat) (w : World) (hq : ∀ w1, Below w.heap.size w w1 → Calls Try.prog 50 #[.slice a 0 cap] w1 fun e w' => e = .returned (.int .i64 0) ∧ w1 = w') :
    Calls Try.prog 27 #[.slice a 0 cap] w fun e w' => e = .returned (.tuple #[.agg #[.float .f64 (floatOfInt .f64 0), .float .f64 (floatOfInt .f64 0), .float .f64 (floatOfInt .f64 0), .float .f64 (floatOfInt .f64 0), .float .f64 (floatOfInt .f64 0), .float .f64 (floatOfInt .f64 0), .float .f64 (floatOfInt .f64 0), .float .f64 (floatOfInt .f64 0)], .int .i64 0]) ∧ Below w.heap.size w w' := by
  have Q := Lib.hid hq
  clear hq
  go_enter Try.func27, Try.ntmps27
  go_wp2_with fail
  refine (Q.out _ (bel2 _ _ _)).mono ?_
  rintro e w' ⟨rfl, rfl⟩
  go_wp2_with fail
  refine wp_loop_rounds 5 ?_
  iterate 4
    rw [rounds_succ]
    go_wp2_with fail
    refine wp_loop_rounds 1 ?_
    rw [rounds_succ]
    go_wp2_with fail
  rw [rounds_succ]
  go_wp2_with fail
  refine bodyPost_ret (v := .tuple #[.agg #[.float .f64 (floatOfInt .f64 0), .float .f64 (floatOfInt .f64 0), .float .f64 (floatOfInt .f64 0), .float .f64 (floatOfInt .f64 0), .float .f64 (floatOfInt .f64 0), .float .f64 (floatOfInt .f64 0), .float .f64 (floatOfInt .f64 0), .float .f64 (floatOfInt .f64 0)], .int .i64 0]) (by simp [results, Try.results27, go_sem]) rfl ⟨rfl, ?_⟩
  exact bel2 _ _ _

theorem int_order (n : Int) : Ieee.double.order (floatOfInt .f64 n) (floatOfInt .f64 n) = some .eq := F.order_NN (F.nearest_NN _ _ _)

/-- Quarters: one answer, and the comparison -/
theorem quarters_any (h : List Int) : ∃ (x0 y0 x1 y1 x2 y2 x3 y3 : Nat) (c : Int),
    (∀ w, Calls Try.prog 29 #[.agg #[.complex .f64 x0 y0, .complex .f64 x1 y1, .complex .f64 x2 y2, .complex .f64 x3 y3], .agg #[.float .f64 x0, .float .f64 y0, .float .f64 x1, .float .f64 y1, .float .f64 x2, .float .f64 y2, .float .f64 x3, .float .f64 y3]] w
      fun e w' => e = .returned (.bool true) ∧ Below w.heap.size w w') ∧ ∀ v w, Ints w v h →
    (Calls Try.prog 26 #[v] w fun e w' => e = .returned (.tuple #[.agg #[.complex .f64 x0 y0, .complex .f64 x1 y1, .complex .f64 x2 y2, .complex .f64 x3 y3], .int .i64 c]) ∧ Below w.heap.size w w') ∧
    (Calls Try.prog 27 #[v] w fun e w' => e = .returned (.tuple #[.agg #[.float .f64 x0, .float .f64 y0, .float .f64 x1, .float .f64 y1, .float .f64 x2, .float .f64 y2, .float .f64 x3, .float .f64 y3], .int .i64 c]) ∧ Below w.heap.size w w') := by
  by_cases hc : fcode h = 0
  · obtain ⟨hl, hall⟩ := fcode_zero hc
    have hok : ∀ i, i < h.length → 0 ≤ h.getD i 0 ∧ h.getD i 0 ≤ 1099511627776 := fun i hi => okN_getD hall hi
    refine ⟨floatOfInt .f64 (cn (fun i => h.getD i 0) 0 h.length + cn (fun i => h.getD i 0) 1 h.length + cn (fun i => h.getD i 0) 2 h.length + cn (fun i => h.getD i 0) 3 h.length), floatOfInt .f64 (0), floatOfInt .f64 (cn (fun i => h.getD i 0) 0 h.length - cn (fun i => h.getD i 0) 2 h.length), floatOfInt .f64 (cn (fun i => h.getD i 0) 3 h.length - cn (fun i => h.getD i 0) 1 h.length), floatOfInt .f64 (cn (fun i => h.getD i 0) 0 h.length - cn (fun i => h.getD i 0) 1 h.length + cn (fun i => h.getD i 0) 2 h.length - cn (fun i => h.getD i 0) 3 h.length), floatOfInt .f64 (0), floatOfInt .f64 (cn (fun i => h.getD i 0) 0 h.length - cn (fun i => h.getD i 0) 2 h.length), floatOfInt .f64 (cn (fun i => h.getD i 0) 1 h.length - cn (fun i => h.getD i 0) 3 h.length), 0, fun w => quarters29 _ _ _ _ _ _ _ _ w (int_order _) (int_order _) (int_order _) (int_order _) (int_order _) (int_order _) (int_order _) (int_order _), fun v w hv => ?_⟩
    · have hf : ∀ v w, Ints w v h → (Calls Try.prog 48 #[v] w fun e w' => e = .returned (.int .i64 0) ∧ w = w') ∧ (Calls Try.prog 50 #[v] w fun e w' => e = .returned (.int .i64 0) ∧ w = w') := fun v w hv => by
        have := fault_any v h w hv
        rw [hc] at this; exact this
      have hR : quartersR (fun i => h.getD i 0) h.length = .agg #[.float .f64 (floatOfInt .f64 (cn (fun i => h.getD i 0) 0 h.length + cn (fun i => h.getD i 0) 1 h.length + cn (fun i => h.getD i 0) 2 h.length + cn (fun i => h.getD i 0) 3 h.length)), .float .f64 (floatOfInt .f64 0),
          .float .f64 (floatOfInt .f64 (cn (fun i => h.getD i 0) 0 h.length - cn (fun i => h.getD i 0) 2 h.length)), .float .f64 (floatOfInt .f64 (cn (fun i => h.getD i 0) 3 h.length - cn (fun i => h.getD i 0) 1 h.length)),
          .float .f64 (floatOfInt .f64 (cn (fun i => h.getD i 0) 0 h.length - cn (fun i => h.getD i 0) 1 h.length + cn (fun i => h.getD i 0) 2 h.length - cn (fun i => h.getD i 0) 3 h.length)), .float .f64 (floatOfInt .f64 0),
          .float .f64 (floatOfInt .f64 (cn (fun i => h.getD i 0) 0 h.length - cn (fun i => h.getD i 0) 2 h.length)), .float .f64 (floatOfInt .f64 (cn (fun i => h.getD i 0) 1 h.length - cn (fun i => h.getD i 0) 3 h.length))] := by
        unfold quartersR
        rw [re0, im0, re1, im1, re2, im2, re3, im3]
      have q1 : ∀ w1, Below w.heap.size w w1 → Calls Try.prog 48 #[v] w1 fun e w' => e = .returned (.int .i64 0) ∧ w1 = w' := fun w1 hb => (hf v w1 (hv.below hb)).1
      have q2 : ∀ w1, Below w.heap.size w w1 → Calls Try.prog 50 #[v] w1 fun e w' => e = .returned (.int .i64 0) ∧ w1 = w' := fun w1 hb => (hf v w1 (hv.below hb)).2
      have hv2 := hv
      rcases hv with ⟨a, cap, rfl, rfl⟩ | ⟨b, off, cap, h1, hm, rfl, hcell⟩
      · exact ⟨quarters_nil a cap w q1, quartersref_nil a cap w q2⟩
      · have hb : b < w.heap.size := World.block_lt_of_cell? w ⟨b, off + 0, none⟩ (hcell 0 h1)
        refine ⟨quarters_ok b off h.length cap _ w hl (fun _ => hb) hcell hok q1, ?_⟩
        have := quartersref_ok b off h.length cap _ w hl (fun _ => hb) hcell hok q2
        rw [hR] at this; exact this
  · refine ⟨0, 0, 0, 0, 0, 0, 0, 0, fcode h, fun w => quarters29 _ _ _ _ _ _ _ _ w (by decide) (by decide) (by decide) (by decide) (by decide) (by decide) (by decide) (by decide), fun v w hv => ⟨quarters_stop v _ w (fun w1 hb => (fault_any v h w1 (hv.below hb)).1) (fcode_ne hc), quartersref_stop v _ w (fun w1 hb => (fault_any v h w1 (hv.below hb)).2) (fcode_ne hc)⟩⟩
end Go.Proofs.Ytomcdnkafgmleaa
