/- plan.Smooth and larderref17.Smooth come to the same. -/
import Derived.Test.YtomcdnkafgmleaaQ1
import Derived.Test.YtomcdnkafgmleaaF5
import Derived.Test.YtomcdnkafgmleaaA0
import Derived.Test.YtomcdnkafgmleaaS2
namespace Go.Proofs.Ytomcdnkafgmleaa
open Go.RowKit

theorem info22 : (Try.prog.info? 22).map (fun i => (i.zero, i.size, i.bytes)) = some (some (.float .f64 0), 1, 8) := by kernel_rfl

/-- the smoothed numbers -/
def smoV (wt rest : Nat) (f : Nat → Int) (n : Nat) : List Value := (List.range n).map fun j => Value.float .f64 (F.smo wt rest f j)
theorem smoV_succ (wt rest : Nat) (f : Nat → Int) (n : Nat) : smoV wt rest f n ++ [.float .f64 (F.smo wt rest f n)] = smoV wt rest f (n + 1) := by
  unfold smoV; rw [List.range_succ, List.map_append]; rfl
theorem smoV_get (wt rest : Nat) (f : Nat → Int) {n j : Nat} (h : j < n) : (smoV wt rest f n)[j]? = some (.float .f64 (F.smo wt rest f j)) := by
  unfold smoV; simp [h]
theorem smoV_len (wt rest : Nat) (f : Nat → Int) (n : Nat) : (smoV wt rest f n).length = n := by unfold smoV; simp

/-- what Smooth gives -/
def SmoOut (w : World) (wt rest : Nat) (f : Nat → Int) (n : Nat) (e : Ending) (w' : World) : Prop :=
  ∃ v, e = .returned (.tuple #[v, .int .i64 0]) ∧ w'.ownsRow w.heap.size 22 1 v n (smoV wt rest f n) ∧ Below w.heap.size w w'


theorem smooth_stop (v : Value) (wt : Nat) (c : Int) (w : World) (hq : Calls Try.prog 48 #[v] w fun e w' => e = .returned (.int .i64 c) ∧ w = w') (hc : (c != 0) = true) :
    Calls Try.prog 24 #[v, .float .f64 wt] w fun e w' => e = .returned (.tuple #[.slice none 0 0, .int .i64 c]) ∧ w = w' := by
  have Q := Lib.hid hq
  clear hq
  go_enter Try.func24, Try.ntmps24
  go_wp2_with fail
  refine Q.out.mono ?_
  rintro e w' ⟨rfl, rfl⟩
  go_wp2_with fail
  go_ret2
  exact ⟨rfl, rfl⟩
theorem smooth_light (v : Value) (wt : Nat) (w : World) (hq : Calls Try.prog 48 #[v] w fun e w' => e = .returned (.int .i64 0) ∧ w = w')
    (h : (FloatKind.f64.format.order wt 0 == some .gt) = false ∨ ((FloatKind.f64.format.order wt 0 == some .gt) = true ∧ (FloatKind.f64.format.order wt 4607182418800017408 == some .lt || FloatKind.f64.format.order wt 4607182418800017408 == some .eq) = false)) :
    Calls Try.prog 24 #[v, .float .f64 wt] w fun e w' => e = .returned (.tuple #[.slice none 0 0, .int .i64 172]) ∧ w = w' := by
  have Q := Lib.hid hq
  clear hq
  rcases h with h | ⟨h, g⟩
  all_goals
    go_enter Try.func24, Try.ntmps24
    go_wp2_with fail
    refine Q.out.mono ?_
    rintro e w' ⟨rfl, rfl⟩
    go_wp2_with fail
    go_ret2
    exact ⟨rfl, rfl⟩
theorem smooth_empty (a : Option Addr) (cap : Nat) (wt rest : Nat) (f : Nat → Int) (w : World) (hq : Calls Try.prog 48 #[.slice a 0 cap] w fun e w' => e = .returned (.int .i64 0) ∧ w = w')
    (h : (FloatKind.f64.format.order wt 0 == some .gt) = true) (g : (FloatKind.f64.format.order wt 4607182418800017408 == some .lt || FloatKind.f64.format.order wt 4607182418800017408 == some .eq) = true)
    (e1 : Ieee.double.sub 4607182418800017408 wt = some rest) :
    Calls Try.prog 24 #[.slice a 0 cap, .float .f64 wt] w fun e w' => SmoOut w wt rest f 0 e w' := by
  have Q := Lib.hid hq
  have hown := Lib.hid (World.ownsRow_nil w w.heap.size 22 1)
  have o1 : ∀ t w, (binOp .sub t (.float .f64 4607182418800017408) (.float .f64 wt)).run Try.prog w = .ok (.float .f64 rest) w := fun t w => run_float_arith w .sub t .f64 _ _ _ e1
  clear hq e1
  go_enter Try.func24, Try.ntmps24
  go_wp2_with fail
  refine Q.out.mono ?_
  rintro e w' ⟨rfl, rfl⟩
  go_wp2_with fail
  refine wp_loop_rounds 1 ?_
  rw [rounds_succ]
  go_wp2_with fail
  go_ret2
  exact ⟨_, rfl, hown.out, Below.refl _ _⟩
set_option maxRecDepth 100000 in
set_option maxHeartbeats 1000000 in
theorem smooth_ok (b off len cap : Nat) (f : Nat → Int) (wt rest w' r' : Nat) (w : World) (h0 : 0 < len) (hl : len ≤ 4096) (hb : b < w.heap.size) (hc : ∀ i, i < len → w.cell? ⟨b, off + i, none⟩ = some (.int .i64 (f i))) (hok : ∀ i, i < len → 0 ≤ f i ∧ f i ≤ 1099511627776)
    (hq : Calls Try.prog 48 #[.slice (some ⟨b, off, none⟩) len cap] w fun e w' => e = .returned (.int .i64 0) ∧ w = w')
    (h : (FloatKind.f64.format.order wt 0 == some .gt) = true) (g : (FloatKind.f64.format.order wt 4607182418800017408 == some .lt || FloatKind.f64.format.order wt 4607182418800017408 == some .eq) = true)
    (e1 : Ieee.double.sub 4607182418800017408 wt = some rest) (hw : F.R wt w') (hr : F.R rest r') (lw : w' ≤ F.rg 1 0) (lr : r' ≤ F.rg 1 0) :
    Calls Try.prog 24 #[.slice (some ⟨b, off, none⟩) len cap, .float .f64 wt] w fun e w' => SmoOut w wt rest f len e w' := by
  have Q := Lib.hid hq
  have Hc := Lib.hid hc
  have Hok := Lib.hid hok
  have Ops := Lib.hid (F.smo_ops hw hr lw lr hl hok)
  have hown := Lib.hid (World.ownsRow_nil w w.heap.size 22 1)
  have o1 : ∀ t w, (binOp .sub t (.float .f64 4607182418800017408) (.float .f64 wt)).run Try.prog w = .ok (.float .f64 rest) w := fun t w => run_float_arith w .sub t .f64 _ _ _ e1
  clear hq hc hok e1 hw hr lw lr
  go_enter Try.func24, Try.ntmps24
  go_wp2_with fail
  refine Q.out.mono ?_
  rintro e w' ⟨rfl, rfl⟩
  go_wp2_with fail
  go_loopw [7, 25] (fun o i wr => ∃ (k : Nat) (v : Value), k ≤ len ∧ i = .int .i64 k ∧ o = v ∧ wr.ownsRow w.heap.size 22 1 v k (smoV wt rest f k) ∧ Below w.heap.size w wr) (fun _ i _ => len - (intOf i).toNat)
  case atStart => exact ⟨0, _, Nat.zero_le _, rfl, rfl, hown.out, Below.refl _ _⟩
  case round =>
    obtain ⟨k, v, hk, rfl, rfl, own, bel⟩ := hrel
    have hz := bel.size
    by_cases hlt : k < len
    · have c : wr.cell? ⟨b, off + k, none⟩ = some (.int .i64 (f k)) := by rw [bel.cell (p := ⟨b, off + k, none⟩) hb]; exact Hc.out k hlt
      have hbb : (k + 1) * 8 ≤ 140737488355328 := by omega
      have hmm : k + 1 ≤ maxLen := by unfold maxLen; omega
      cases k with
      | zero =>
        have c0 : wr.cell? ⟨b, off, none⟩ = some (.int .i64 (f 0)) := by simpa using c
        clear c
        have ow := Lib.hid own
        have be := Lib.hid bel
        clear own bel
        have hzz := Lib.hid hz
        clear hz
        go_wp2_with (at_builtin; refine wpList_app1 _ rfl _ _ 48 rfl w.heap.size 22 (.float .f64 0) 8 Try.underlying48 info22 rfl _ _ _ rfl (ow.out.alloc _) wr.heap.size (.float .f64 (floatOfInt .f64 (f 0))) rfl (cell1_new _ _ _) rfl hmm hbb (Nat.le_trans hzz.out (size_alloc_le _ _)) ?_; intro v' w1 hown' hbel)
        go_roundw
        case rel => exact ⟨1, _, by omega, by go_num, rfl, by rw [← smoV_succ]; exact hown', be.out.trans (below_alloc1 hzz.out hbel)⟩
        case measure => simp [intOf]; omega
      | succ j =>
        obtain ⟨gb, cp, rfl, hgb, hgl, hcl, _⟩ := own_block own (by omega)
        have cj := hcl j _ (smoV_get wt rest f (Nat.lt_succ_self j))
        obtain ⟨p1, p2, p3⟩ := Ops.out j hlt
        have q1 : ∀ t w, (binOp .mul t (.float .f64 wt) (.float .f64 (floatOfInt .f64 (f (j + 1))))).run Try.prog w = .ok (.float .f64 (F.mu wt (floatOfInt .f64 (f (j + 1))))) w := fun t w => run_float_arith w .mul t .f64 _ _ _ p1
        have q2 : ∀ t w, (binOp .mul t (.float .f64 rest) (.float .f64 (F.smo wt rest f j))).run Try.prog w = .ok (.float .f64 (F.mu rest (F.smo wt rest f j))) w := fun t w => run_float_arith w .mul t .f64 _ _ _ p2
        have q3 : ∀ t w, (binOp .add t (.float .f64 (F.mu wt (floatOfInt .f64 (f (j + 1))))) (.float .f64 (F.mu rest (F.smo wt rest f j)))).run Try.prog w = .ok (.float .f64 (F.smo wt rest f (j + 1))) w := fun t w => run_float_arith w .add t .f64 _ _ _ p3
        have ow := Lib.hid own
        have be := Lib.hid bel
        clear own bel hcl p1 p2 p3
        have hzz := Lib.hid hz
        clear hz
        go_wp2_with (at_builtin; refine wpList_app1 _ rfl _ _ 48 rfl w.heap.size 22 (.float .f64 0) 8 Try.underlying48 info22 rfl _ _ _ rfl (ow.out.alloc _) wr.heap.size (.float .f64 (F.smo wt rest f (j + 1))) rfl (cell1_new _ _ _) rfl hmm hbb (Nat.le_trans hzz.out (size_alloc_le _ _)) ?_; intro v' w1 hown' hbel)
        go_roundw
        case rel => exact ⟨j + 2, _, by omega, by go_num, rfl, by rw [← smoV_succ]; exact hown', be.out.trans (below_alloc1 hzz.out hbel)⟩
        case measure => simp [intOf]; omega
    · obtain rfl : k = len := by omega
      have ow := Lib.hid own
      have be := Lib.hid bel
      clear own bel
      go_wp2_with fail
      go_ret2
      exact ⟨_, rfl, ow.out, be.out⟩


theorem smoothref_stop (v : Value) (wt : Nat) (c : Int) (w : World) (hq : Calls Try.prog 50 #[v] w fun e w' => e = .returned (.int .i64 c) ∧ w = w') (hc : (c != 0) = true) :
    Calls Try.prog 25 #[v, .float .f64 wt] w fun e w' => e = .returned (.tuple #[.slice none 0 0, .int .i64 c]) ∧ w = w' := by
  have Q := Lib.hid hq
  clear hq
  go_enter Try.func25, Try.ntmps25
  go_wp2_with fail
  refine Q.out.mono ?_
  rintro e w' ⟨rfl, rfl⟩
  go_wp2_with fail
  go_ret2
  exact ⟨rfl, rfl⟩
theorem smoothref_light (v : Value) (wt : Nat) (w : World) (hq : Calls Try.prog 50 #[v] w fun e w' => e = .returned (.int .i64 0) ∧ w = w')
    (h : (FloatKind.f64.format.order wt 0 == some .gt) = false ∨ ((FloatKind.f64.format.order wt 0 == some .gt) = true ∧ (FloatKind.f64.format.order wt 4607182418800017408 == some .lt || FloatKind.f64.format.order wt 4607182418800017408 == some .eq) = false)) :
    Calls Try.prog 25 #[v, .float .f64 wt] w fun e w' => e = .returned (.tuple #[.slice none 0 0, .int .i64 172]) ∧ w = w' := by
  have Q := Lib.hid hq
  clear hq
  rcases h with h | ⟨h, g⟩
  all_goals
    go_enter Try.func25, Try.ntmps25
    go_wp2_with fail
    refine Q.out.mono ?_
    rintro e w' ⟨rfl, rfl⟩
    go_wp2_with fail
    go_ret2
    exact ⟨rfl, rfl⟩
theorem smoothref_empty (a : Option Addr) (cap : Nat) (wt rest : Nat) (f : Nat → Int) (w : World) (hq : Calls Try.prog 50 #[.slice a 0 cap] w fun e w' => e = .returned (.int .i64 0) ∧ w = w')
    (h : (FloatKind.f64.format.order wt 0 == some .gt) = true) (g : (FloatKind.f64.format.order wt 4607182418800017408 == some .lt || FloatKind.f64.format.order wt 4607182418800017408 == some .eq) = true)
    (e1 : Ieee.double.sub 4607182418800017408 wt = some rest) :
    Calls Try.prog 25 #[.slice a 0 cap, .float .f64 wt] w fun e w' => SmoOut w wt rest f 0 e w' := by
  have Q := Lib.hid hq
  have hown := Lib.hid (World.ownsRow_nil w w.heap.size 22 1)
  have o1 : ∀ t w, (binOp .sub t (.float .f64 4607182418800017408) (.float .f64 wt)).run Try.prog w = .ok (.float .f64 rest) w := fun t w => run_float_arith w .sub t .f64 _ _ _ e1
  clear hq e1
  go_enter Try.func25, Try.ntmps25
  go_wp2_with fail
  refine Q.out.mono ?_
  rintro e w' ⟨rfl, rfl⟩
  go_wp2_with fail
  refine wp_loop_rounds 1 ?_
  rw [rounds_succ]
  go_wp2_with fail
  go_ret2
  exact ⟨_, rfl, hown.out, Below.refl _ _⟩
set_option maxRecDepth 100000 in
set_option maxHeartbeats 1000000 in
theorem smoothref_ok (b off len cap : Nat) (f : Nat → Int) (wt rest w' r' : Nat) (w : World) (h0 : 0 < len) (hl : len ≤ 4096) (hb : b < w.heap.size) (hc : ∀ i, i < len → w.cell? ⟨b, off + i, none⟩ = some (.int .i64 (f i))) (hok : ∀ i, i < len → 0 ≤ f i ∧ f i ≤ 1099511627776)
    (hq : Calls Try.prog 50 #[.slice (some ⟨b, off, none⟩) len cap] w fun e w' => e = .returned (.int .i64 0) ∧ w = w')
    (h : (FloatKind.f64.format.order wt 0 == some .gt) = true) (g : (FloatKind.f64.format.order wt 4607182418800017408 == some .lt || FloatKind.f64.format.order wt 4607182418800017408 == some .eq) = true)
    (e1 : Ieee.double.sub 4607182418800017408 wt = some rest) (hw : F.R wt w') (hr : F.R rest r') (lw : w' ≤ F.rg 1 0) (lr : r' ≤ F.rg 1 0) :
    Calls Try.prog 25 #[.slice (some ⟨b, off, none⟩) len cap, .float .f64 wt] w fun e w' => SmoOut w wt rest f len e w' := by
  have Q := Lib.hid hq
  have Hc := Lib.hid hc
  have Hok := Lib.hid hok
  have Ops := Lib.hid (F.smo_ops hw hr lw lr hl hok)
  have hown := Lib.hid (World.ownsRow_nil w w.heap.size 22 1)
  have o1 : ∀ t w, (binOp .sub t (.float .f64 4607182418800017408) (.float .f64 wt)).run Try.prog w = .ok (.float .f64 rest) w := fun t w => run_float_arith w .sub t .f64 _ _ _ e1
  clear hq hc hok e1 hw hr lw lr
  go_enter Try.func25, Try.ntmps25
  go_wp2_with fail
  refine Q.out.mono ?_
  rintro e w' ⟨rfl, rfl⟩
  go_wp2_with fail
  go_loopw [8, 10] (fun o i wr => ∃ (k : Nat) (v : Value), k ≤ len ∧ i = .int .i64 k ∧ o = v ∧ wr.ownsRow w.heap.size 22 1 v k (smoV wt rest f k) ∧ Below w.heap.size w wr) (fun _ i _ => len - (intOf i).toNat)
  case atStart => exact ⟨0, _, Nat.zero_le _, rfl, rfl, hown.out, Below.refl _ _⟩
  case round =>
    obtain ⟨k, v, hk, rfl, rfl, own, bel⟩ := hrel
    have hz := bel.size
    by_cases hlt : k < len
    · have c : wr.cell? ⟨b, off + k, none⟩ = some (.int .i64 (f k)) := by rw [bel.cell (p := ⟨b, off + k, none⟩) hb]; exact Hc.out k hlt
      have hbb : (k + 1) * 8 ≤ 140737488355328 := by omega
      have hmm : k + 1 ≤ maxLen := by unfold maxLen; omega
      cases k with
      | zero =>
        have c0 : wr.cell? ⟨b, off, none⟩ = some (.int .i64 (f 0)) := by simpa using c
        clear c
        have ow := Lib.hid own
        have be := Lib.hid bel
        clear own bel
        have hzz := Lib.hid hz
        clear hz
        go_wp2_with (at_builtin; refine wpList_app1 _ rfl _ _ 48 rfl w.heap.size 22 (.float .f64 0) 8 Try.underlying48 info22 rfl _ _ _ rfl (ow.out.alloc _) wr.heap.size (.float .f64 (floatOfInt .f64 (f 0))) rfl (cell1_new _ _ _) rfl hmm hbb (Nat.le_trans hzz.out (size_alloc_le _ _)) ?_; intro v' w1 hown' hbel)
        go_roundw
        case rel => exact ⟨1, _, by omega, by go_num, rfl, by rw [← smoV_succ]; exact hown', be.out.trans (below_alloc1 hzz.out hbel)⟩
        case measure => simp [intOf]; omega
      | succ j =>
        obtain ⟨gb, cp, rfl, hgb, hgl, hcl, _⟩ := own_block own (by omega)
        have cj := hcl j _ (smoV_get wt rest f (Nat.lt_succ_self j))
        obtain ⟨p1, p2, p3⟩ := Ops.out j hlt
        have q1 : ∀ t w, (binOp .mul t (.float .f64 wt) (.float .f64 (floatOfInt .f64 (f (j + 1))))).run Try.prog w = .ok (.float .f64 (F.mu wt (floatOfInt .f64 (f (j + 1))))) w := fun t w => run_float_arith w .mul t .f64 _ _ _ p1
        have q2 : ∀ t w, (binOp .mul t (.float .f64 rest) (.float .f64 (F.smo wt rest f j))).run Try.prog w = .ok (.float .f64 (F.mu rest (F.smo wt rest f j))) w := fun t w => run_float_arith w .mul t .f64 _ _ _ p2
        have q3 : ∀ t w, (binOp .add t (.float .f64 (F.mu wt (floatOfInt .f64 (f (j + 1))))) (.float .f64 (F.mu rest (F.smo wt rest f j)))).run Try.prog w = .ok (.float .f64 (F.smo wt rest f (j + 1))) w := fun t w => run_float_arith w .add t .f64 _ _ _ p3
        have ow := Lib.hid own
        have be := Lib.hid bel
        clear own bel hcl p1 p2 p3
        have hzz := Lib.hid hz
        clear hz
        go_wp2_with (at_builtin; refine wpList_app1 _ rfl _ _ 48 rfl w.heap.size 22 (.float .f64 0) 8 Try.underlying48 info22 rfl _ _ _ rfl (ow.out.alloc _) wr.heap.size (.float .f64 (F.smo wt rest f (j + 1))) rfl (cell1_new _ _ _) rfl hmm hbb (Nat.le_trans hzz.out (size_alloc_le _ _)) ?_; intro v' w1 hown' hbel)
        go_roundw
        case rel => exact ⟨j + 2, _, by omega, by go_num, rfl, by rw [← smoV_succ]; exact hown', be.out.trans (below_alloc1 hzz.out hbel)⟩
        case measure => simp [intOf]; omega
    · obtain rfl : k = len := by omega
      have ow := Lib.hid own
      have be := Lib.hid bel
      clear own bel
      go_wp2_with fail
      go_ret2
      exact ⟨_, rfl, ow.out, be.out⟩

end Go.Proofs.Ytomcdnkafgmleaa
