/- The next order. -/
import Derived.Test.YtomcdnkafgmleaaU2
namespace Go.Proofs.Ytomcdnkafgmleaa
open Go.RowKit

/-- a row of numbers of the call's own -/
def Row (w : World) (g : Nat) (ys : List Int) : Prop := (∀ i, i < ys.length → w.cell? ⟨g, i, none⟩ = some (.int .i64 (ys.getD i 0))) ∧ (∀ i, w.frozen? ⟨g, i, none⟩ = false) ∧ g < w.heap.size
theorem Row.drewN {w : World} {g : Nat} {ys : List Int} (h : Row w g ys) (n : Nat) : Row (w.drewN n) g ys := h
theorem Row.below {w w' : World} {g : Nat} {ys : List Int} (h : Row w g ys) (hb : Below w.heap.size w w') : Row w' g ys :=
  ⟨fun i hi => by rw [hb.cell (p := ⟨g, i, none⟩) h.2.2]; exact h.1 i hi, fun i => by rw [hb.frozen (p := ⟨g, i, none⟩) h.2.2]; exact h.2.1 i, Nat.lt_of_lt_of_le h.2.2 hb.size⟩
theorem Row.store {w : World} {g : Nat} {ys : List Int} (h : Row w g ys) {k : Nat} (hk : k < ys.length) (x : Int) : Row (w.setCell ⟨g, k, none⟩ (.int .i64 x)) g (ys.set k x) := by
  refine ⟨fun i hi => ?_, fun i => by rw [World.frozen?_setCell]; exact h.2.1 i, by simp [World.setCell]; exact h.2.2⟩
  rw [List.length_set] at hi
  by_cases e : i = k
  · subst e
    rw [World.cell?_setCell_same _ _ _ (h.1 i hi), List.getD_eq_getElem?_getD, List.getElem?_set_self hk]; rfl
  · rw [World.cell?_setCell_other _ _ _ _ (fun c => e (by simpa using c.symm)), h.1 i hi, List.getD_eq_getElem?_getD, List.getD_eq_getElem?_getD, List.getElem?_set_ne (by omega)]
theorem Row.ints {w : World} {g n cap : Nat} {ys : List Int} (h : Row w g ys) (hn : ys.length = n) (hm : n ≤ 9223372036854775807) : Ints w (.slice (some ⟨g, 0, none⟩) n cap) ys := by
  subst hn
  by_cases h0 : ys = []
  · subst h0; exact .inl ⟨_, _, rfl, rfl⟩
  · exact .inr ⟨g, 0, cap, List.length_pos_iff.2 h0, hm, rfl, fun i hi => by rw [Nat.zero_add]; exact h.1 i hi⟩
theorem swap_perm {ys : List Int} {i j : Nat} (hi : i < ys.length) (hj : j < ys.length) : ((ys.set i (ys.getD j 0)).set j (ys.getD i 0)).Perm ys := by
  have := @List.set_set_perm _ ys i j hi hj
  rw [List.getD_eq_getElem?_getD, List.getD_eq_getElem?_getD, List.getElem?_eq_getElem hi, List.getElem?_eq_getElem hj]
  exact this
theorem swap_zero {ys : List Int} {i j : Nat} (hi : 0 < i) (hj : 0 < j) (x y : Int) : ((ys.set i x).set j y).getD 0 0 = ys.getD 0 0 := by
  rw [List.getD_eq_getElem?_getD, List.getElem?_set_ne (by omega), List.getElem?_set_ne (by omega), List.getD_eq_getElem?_getD]
theorem below_set2 {B : Nat} {a w : World} (h : Below B a w) {g : Nat} (hg : B ≤ g) (i j : Nat) (u v : Value) : Below B a ((w.setCell ⟨g, i, none⟩ u).setCell ⟨g, j, none⟩ v) := (h.setCell hg u).setCell hg v

set_option maxRecDepth 100000 in
set_option maxHeartbeats 4000000 in
theorem next21 (v : Value) (n : Nat) (p : List Int) (w : World) (hv : Ints w v p) (hp : p.length = n) (hn0 : 0 < n) (hn : n ≤ 12) :
    Calls Try.prog 21 #[v] w fun e w' => ∃ v' p', e = .returned v' ∧ Ints w' v' p' ∧ Below w.heap.size w w' ∧ (p' = [] ∨ p'.Perm p ∧ p'.getD 0 0 = p.getD 0 0) := by
  obtain ⟨b, off, cap, rfl, hc⟩ := hv.get (by omega)
  have HS : Hid (Src w (.slice (some ⟨b, off, none⟩) p.length cap) (p.map (Value.int .i64))) := Lib.hid (.inr (.inr ⟨b, off, cap, by rw [List.length_map]; omega, by rw [List.length_map], fun i hi => by
    have hi' : i < p.length := by simpa using hi
    rw [hc i hi', List.getElem?_map, List.getD_eq_getElem?_getD, List.getElem?_eq_getElem hi']; rfl⟩))
  have own0 := Lib.hid (World.ownsRow_nil w w.heap.size 3 1)
  have A1 := Lib.hid (show ∀ u ∈ p.map (Value.int .i64), u.oneCell' = true from fun u hu => by obtain ⟨k, _, rfl⟩ := List.mem_map.1 hu; rfl)
  have A2 := Lib.hid (show 0 + (p.map (Value.int .i64)).length ≤ maxLen by rw [List.length_map]; unfold maxLen; omega)
  have A3 := Lib.hid (show (0 + (p.map (Value.int .i64)).length) * 8 ≤ 140737488355328 by rw [List.length_map]; omega)
  clear hv hc
  rw [hp] at HS ⊢
  have HP := Lib.hid hp
  clear hp
  go_enter Try.func21, Try.ntmps21
  go_wp2_with (at_builtin; go_loud (refine wpList_appSrc _ rfl _ _ 36 rfl w.heap.size 3 (.int .i64 0) 8 Try.underlying36 info3 rfl _ _ _ rfl own0.out _ _ rfl HS.out A1.out A2.out A3.out (Nat.le_refl _) ?_); intro v1 w1 own1 bel1; have own2 := own_len HP.out own1; obtain ⟨g, c2, rfl, hg1, hg2, hg3, hg4, hg5, hg6⟩ := own_room own2 hn0; have HG := Lib.hid hg5; have HFz := Lib.hid hg6; have Bel1 := Lib.hid bel1; clear own1 own2 bel1 hg5 hg6)
  have R1 : Hid (Row w1 g p) := Lib.hid ⟨fun i hi => HG.out i _ (by rw [List.getElem?_map, List.getD_eq_getElem?_getD, List.getElem?_eq_getElem hi]; rfl), HFz.out, hg2⟩
  clear HG HFz A1 A2 A3 HS own0
  have l0 : (n : Int) ≤ 12 := by omega
  have l00 : (1 : Int) ≤ (n : Int) := by omega
  go_loopw [4] (fun i wr => ∃ (iv : Int) (m : Nat), -1 ≤ iv ∧ iv ≤ (n : Int) - 2 ∧ i = .int .i64 iv ∧ wr = w1.drewN m) (fun i _ => (intOf i).toNat)
  case atStart => exact ⟨(n : Int) - 2, 0, by omega, by omega, rfl, rfl⟩
  obtain ⟨iv, m, hi1, hi2, rfl, rfl⟩ := hrel
  by_cases hiv : 1 ≤ iv
  case neg =>
    have g1 : decide (1 ≤ iv) = false := by simp; omega
    have g2 : iv < 1 := by omega
    go_wp2_with fail
    go_quiet (fail)
    go_wp2_with fail
    go_ret
    exact ⟨_, [], rfl, .inl ⟨_, _, rfl, rfl⟩, below_drewN Bel1.out _, .inl rfl⟩
  obtain ⟨k, rfl⟩ : ∃ k : Nat, iv = k := ⟨iv.toNat, by omega⟩
  have c1 := R1.out.1 k (by rw [HP.out]; omega)
  have c2' := R1.out.1 (k + 1) (by rw [HP.out]; omega)
  obtain ⟨x, hx⟩ : ∃ x, p.getD k 0 = x := ⟨_, rfl⟩
  obtain ⟨y, hy⟩ : ∃ y, p.getD (k + 1) 0 = y := ⟨_, rfl⟩
  rw [hx] at c1
  rw [hy] at c2'
  have Hx := Lib.hid hx
  have Hy := Lib.hid hy
  clear hx hy
  have g1 : decide ((1 : Int) ≤ (k : Int)) = true := by simp; omega
  have g1' : decide (1 ≤ k) = true := by simp; omega
  have z1 : (k : Int) < (n : Int) := by omega
  have z2 : (0 : Int) ≤ (k : Int) := by omega
  have z3 : (k : Int) + 1 < (n : Int) := by omega
  have z4 : (0 : Int) ≤ (k : Int) + 1 := by omega
  have z5 : ((k : Int) + 1).toNat = k + 1 := by omega
  have w1' : IntKind.i64.wrap ((k : Int) + 1) = (k : Int) + 1 := IntWalk.i64_in _ (by omega)
  by_cases hxy : y < x
  case pos =>
    go_wp2_with fail
    go_quiet (fail)
    clear w1' z5
    go_wp2_with fail
    go_roundw
    case rel => exact ⟨(k : Int) - 1, _, by omega, by omega, rfl, rfl⟩
    case measure => simp [intOf]; omega
  go_wp2_with fail
  go_quiet (fail)
  clear w1' z5
  go_wp2_with fail
  have R2 := Lib.hid (R1.out.drewN (m + nq))
  have B2 := Lib.hid (below_drewN Bel1.out (m + nq))
  have Hle := Lib.hid hxy
  clear c1 c2' R1 Bel1 g1 g1' hxy
  generalize w1.drewN (m + nq) = w2 at *
  have hk1 : k + 1 < n := by omega
  go_loopw [5] (fun i wr => ∃ (j m : Nat), k + 1 ≤ j ∧ j < n ∧ i = .int .i64 j ∧ wr = w2.drewN m) (fun i _ => (intOf i).toNat)
  case atStart => exact ⟨n - 1, 0, by omega, by omega, congrArg (Value.int .i64) (by omega), rfl⟩
  obtain ⟨j, m2, hj1, hj2, rfl, rfl⟩ := hrel
  have c3 := R2.out.1 j (by rw [HP.out]; omega)
  have c4 := R2.out.1 k (by rw [HP.out]; omega)
  rw [Hx.out] at c4
  obtain ⟨z, hz⟩ : ∃ z, p.getD j 0 = z := ⟨_, rfl⟩
  rw [hz] at c3
  have Hz := Lib.hid hz
  clear hz
  have z5 : (j : Int) < (n : Int) := by omega
  have z6 : (0 : Int) ≤ (j : Int) := by omega
  by_cases hzx : z < x
  case pos =>
    have hne : j ≠ k + 1 := by
      rintro rfl
      have h1 := Hz.out
      rw [Hy.out] at h1
      have h2 := Hle.out
      omega
    go_wp2_with fail
    go_quiet (fail)
    go_wp2_with fail
    go_roundw
    case rel => exact ⟨j - 1, _, by omega, by omega, congrArg (Value.int .i64) (by omega), rfl⟩
    case measure => simp [intOf]; omega
  have fz := R2.out.2.1
  have hkj : ¬ k = j := by omega
  have hjk : ¬ j = k := by omega
  go_wp2_with fail
  go_quiet (fail)
  have R3 := R2.out.drewN (m2 + nq)
  have B3 := below_drewN B2.out (m2 + nq)
  have R4 := Lib.hid ((R3.store (k := k) (by rw [HP.out]; omega) z).store (k := j) (by rw [List.length_set, HP.out]; omega) x)
  have B4 := Lib.hid (below_set2 B3 hg1 k j (.int .i64 z) (.int .i64 x))
  have P4 := Lib.hid (show ((p.set k z).set j x).Perm p by
    have := swap_perm (ys := p) (i := k) (j := j) (by rw [HP.out]; omega) (by rw [HP.out]; omega)
    rwa [Hz.out, Hx.out] at this)
  have Z4 := Lib.hid (swap_zero (ys := p) (i := k) (j := j) (by omega) (by omega) z x)
  clear R3 B3 R2 B2
  go_wp2_with fail
  go_loopw [7, 8] (fun va vb wr => ∃ (A B : Nat) (ys : List Int), k + 1 ≤ A ∧ A ≤ n ∧ B < n ∧ va = .int .i64 A ∧ vb = .int .i64 B ∧ ys.Perm p ∧ ys.getD 0 0 = p.getD 0 0 ∧ Row wr g ys ∧ Below w.heap.size w wr) (fun _ vb _ => (intOf vb).toNat)
  case atStart => exact ⟨k + 1, n - 1, _, Nat.le_refl _, by omega, by omega, by go_num, congrArg (Value.int .i64) (by omega), P4.out, Z4.out, R4.out, B4.out⟩
  obtain ⟨A, B, ys, hA1, hA2, hB, rfl, rfl, hperm, hzero, hrow, hbel⟩ := hrel
  have hys : ys.length = n := by rw [hperm.length_eq]; exact HP.out
  have Rw := Lib.hid hrow
  have Bw := Lib.hid hbel
  have Pw := Lib.hid hperm
  have Zw := Lib.hid hzero
  have Yw := Lib.hid hys
  clear hrow hbel hperm hzero hys fz c3 c4
  by_cases hAB : A < B
  case pos =>
    have c5 := Rw.out.1 A (by rw [Yw.out]; omega)
    have c6 := Rw.out.1 B (by rw [Yw.out]; omega)
    have fz := Rw.out.2.1
    obtain ⟨p1, hp1⟩ : ∃ q, ys.getD A 0 = q := ⟨_, rfl⟩
    obtain ⟨p2, hp2⟩ : ∃ q, ys.getD B 0 = q := ⟨_, rfl⟩
    rw [hp1] at c5
    rw [hp2] at c6
    have R7 := Lib.hid ((Rw.out.store (k := A) (by rw [Yw.out]; omega) p2).store (k := B) (by rw [List.length_set, Yw.out]; omega) p1)
    have B7 := Lib.hid (below_set2 Bw.out hg1 A B (.int .i64 p2) (.int .i64 p1))
    have P7 := Lib.hid (show ((ys.set A p2).set B p1).Perm p by
      have := swap_perm (ys := ys) (i := A) (j := B) (by rw [Yw.out]; omega) (by rw [Yw.out]; omega)
      rw [hp1, hp2] at this
      exact this.trans Pw.out)
    have Z7 := Lib.hid ((swap_zero (ys := ys) (i := A) (j := B) (by omega) (by omega) p2 p1).trans Zw.out)
    have a1 : (A : Int) < (n : Int) := by omega
    have a2 : (0 : Int) ≤ (A : Int) := by omega
    have a3 : (B : Int) < (n : Int) := by omega
    have a4 : (0 : Int) ≤ (B : Int) := by omega
    have a5 : ¬ A = B := by omega
    have a6 : ¬ B = A := by omega
    clear hp1 hp2
    go_wp2_with fail
    exact ⟨⟨A + 1, B - 1, _, by omega, by omega, by omega, by go_num, congrArg (Value.int .i64) (by omega), P7.out, Z7.out, R7.out, B7.out⟩, by simp [intOf]; omega⟩
  go_wp2_with fail
  go_ret
  exact ⟨_, ys, rfl, Rw.out.ints Yw.out (by omega), Bw.out, .inr ⟨Pw.out, Zw.out⟩⟩
end Go.Proofs.Ytomcdnkafgmleaa
