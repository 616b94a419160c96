/- Trip over more than one stop. -/
import Derived.Test.YtomcdnkafgmleaaT4
import Derived.Test.YtomcdnkafgmleaaA3
import Derived.Test.YtomcdnkafgmleaaT9
import Derived.Deep.QuietTactic
import Derived.BigQuiet
import Derived.Deep.RegionLaw
namespace Go.Proofs.Ytomcdnkafgmleaa
open Go.RowKit

theorem far_bound {n : Nat} {M : Nat → List Int} (hgood : ∀ i, i < n → okRow n (M i)) (hM : ∀ i, n ≤ i → M i = []) (i j : Nat) : 0 ≤ (M i).getD j 0 ∧ (M i).getD j 0 ≤ 1000000000 := by
  by_cases h : i < n
  · obtain ⟨h1, h2⟩ := hgood i h
    rw [List.getD_eq_getElem?_getD]
    by_cases hj : j < (M i).length
    · rw [List.getElem?_eq_getElem hj]
      have := List.all_eq_true.1 h2 _ (List.getElem_mem hj)
      simp [okF] at this
      simpa using this
    · rw [List.getElem?_eq_none (by omega)]; simp
  · rw [hM i (by omega)]; simp

theorem cell20 (w : World) (u0 u1 : Value) (e : TypeId) : (w.alloc (.cells #[u0, u1] e)).drew.cell? ⟨w.heap.size, 0, none⟩ = some u0 := by simp
theorem cell21 (w : World) (u0 u1 : Value) (e : TypeId) : (w.alloc (.cells #[u0, u1] e)).drew.cell? ⟨w.heap.size, 1, none⟩ = some u1 := by simp
theorem ways_cells_succ {far : Nat → Nat → Int} {t : Nat → Nat → Int × Int} {j s a q ln : Nat} {x y : Int} (h : s / 2 ^ j % 2 = 0) (hq : s + 2 ^ j = q) (hx : far a j = x) (hy : (t q j).1 = y) (hl : (ways far t j s a).length = ln) :
    (ways far t (j + 1) s a).length = ln + 1 ∧ legCells (ways far t (j + 1) s a) = legCells (ways far t j s a) ++ [.int .i64 (x + y), .int .i64 j] := by
  rw [ways_succ, if_pos h, hq, hx, hy]
  exact ⟨by rw [List.length_append, hl]; rfl, by rw [legCells_append]; rfl⟩
theorem Legs.drew {w : World} {v : Value} {ls : List (Int × Int)} (h : Legs w v ls) : Legs w.drew v ls := by
  obtain ⟨b, off, cap, h0, h1, hb, e, hc⟩ := h
  exact ⟨b, off, cap, h0, h1, hb, e, fun i hi => hc i hi⟩
theorem own_base {w : World} {base b size : Nat} {e : TypeId} {v : Value} {n : Nat} {xs : List Value} (h : w.ownsRow base e size v n xs) (hb : b ≤ base) : w.ownsRow b e size v n xs := by
  refine ⟨h.1, ?_⟩
  rcases h.2 with hn | ⟨g, cap, cur, rfl, hbb, rest⟩
  · exact .inl hn
  · exact .inr ⟨g, cap, cur, rfl, Nat.le_trans hb hbb, rest⟩

theorem info3t : (Try.prog.info? 3).map (fun i => (i.zero, i.size, i.bytes)) = some (some (.int .i64 0), 1, 8) := by kernel_rfl
theorem info102 : (Try.prog.info? 102).map (fun i => (i.zero, i.size, i.bytes)) = some (some (.agg #[.int .i64 0, .int .i64 0]), 2, 16) := by kernel_rfl

set_option maxRecDepth 100000 in
set_option maxHeartbeats 4000000 in
theorem trip_ok (v : Value) (n : Nat) (M : Nat → List Int) (far : Nat → Nat → Int) (hfar : ∀ i j, far i j = (M i).getD j 0) (w : World) (hv : Rows2 w v n M) (h2 : 2 ≤ n) (hn : n ≤ 12) (hgood : ∀ i, i < n → okRow n (M i)) (hM : ∀ i, n ≤ i → M i = []) :
    Calls Try.prog 15 #[v] w fun e w' => ∃ l, e = .returned (.tuple #[l, .int .i64 (T far n 1 0).1, .int .i64 0]) ∧ w'.ownsRow w.heap.size 3 1 l (0 :: tour far n (2 ^ n) 1 0).length ((0 :: tour far n (2 ^ n) 1 0).map (Value.int .i64)) ∧ Below w.heap.size w w' := by
  obtain ⟨a, cap, rfl, hm⟩ := hv.form
  have HV := Lib.hid hv
  have HG := Lib.hid hgood
  have HF : Hid (∀ i j, 0 ≤ far i j ∧ far i j ≤ 1000000000) := Lib.hid fun i j => by rw [hfar]; exact far_bound hgood hM i j
  have HFar := Lib.hid hfar
  obtain ⟨A, hA⟩ : ∃ A, 2 ^ n = A + 1 := ⟨2 ^ n - 1, by have := Nat.two_pow_pos n; omega⟩
  have hA1 : A + 1 ≤ 4096 := by
    have h1 : 2 ^ n ≤ 2 ^ 12 := Nat.pow_le_pow_right (by omega) hn
    have h12 : (2 : Nat) ^ 12 = 4096 := by decide
    omega
  have hA3 : 3 ≤ A := by
    have h1 : 2 ^ 2 ≤ 2 ^ n := Nat.pow_le_pow_right (by omega) h2
    omega
  have hw : wrap64 (wrap64 (2 ^ n) - 1) = (A : Int) := by
    have h1 : ((2 : Int) ^ n) = ((A + 1 : Nat) : Int) := by rw [← hA, Int.natCast_pow]; rfl
    rw [h1, IntWalk.wrap64_in (((A + 1 : Nat) : Int)) ⟨by omega, by omega⟩, IntWalk.wrap64_in (((A + 1 : Nat) : Int) - 1) ⟨by omega, by omega⟩]; omega
  have TS := Lib.hid (TB.start w n (T far n))
  have HA := Lib.hid hA
  clear hv hgood hA hM hfar
  go_enter Try.func15, Try.ntmps15
  go_wp2_with fail
  go_loop [23] (fun i => ∃ k : Nat, k ≤ n ∧ i = .int .i64 k) (fun i => n - (intOf i).toNat)
  case atStart => exact ⟨0, Nat.zero_le _, rfl⟩
  obtain ⟨k, hk, rfl⟩ := hrel
  by_cases hlt : k < n
  case pos =>
    obtain ⟨b, off, a2, cap2, rfl, c, hl, hi⟩ := HV.out.row (i := k) (by omega)
    have HI := Lib.hid hi
    obtain ⟨g1, g2⟩ := HG.out k hlt
    rw [g1] at c HI
    clear hi
    go_wp2_with fail
    refine (contains42 _ _ _ HI.out).mono ?_
    rintro e w' ⟨rfl, rfl⟩
    rw [g2]
    go_wp2_with fail
    go_round
    case rel => exact ⟨k + 1, by omega, by go_num⟩
    case measure => simp [intOf]; omega
  obtain rfl : n = k := by omega
  go_wp2_with fail
  have ts : TB w (w.alloc (.cells Try.zeroCells104 104)) w.heap.size n (T far n) A 0 := by
    have := TS.out
    rw [HA.out, Nat.add_sub_cancel] at this; exact this
  have TS2 := Lib.hid ts
  clear ts TS
  generalize w.alloc (.cells Try.zeroCells104 104) = w1 at *
  go_loopw [10] (fun i wr => ∃ s : Nat, s ≤ A ∧ i = .int .i64 s ∧ TB w wr w.heap.size n (T far n) s 0) (fun i _ => (intOf i).toNat)
  case atStart => exact ⟨A, Nat.le_refl _, rfl, TS2.out⟩
  obtain ⟨s, hs, rfl, tb⟩ := hrel
  have TBs := Lib.hid tb
  clear tb TS2 hw
  by_cases h0 : 0 < s
  case pos =>
    go_wp2_with fail
    go_loopw [51] (fun i wr => ∃ k : Nat, k ≤ n ∧ i = .int .i64 k ∧ TB w wr w.heap.size n (T far n) s k) (fun i _ => n - (intOf i).toNat)
    case atStart => exact ⟨0, Nat.zero_le _, rfl, TBs.out⟩
    obtain ⟨k, hk, rfl, tb⟩ := hrel
    have TBk := Lib.hid tb
    clear tb TBs
    by_cases hkn : k < n
    case pos =>
      have b1 := and_i64 s (by omega)
      have b2 := and_i64 (s / 2 ^ k) (by have := Nat.div_le_self s (2 ^ k); omega)
      have ec : ((s / 2 ^ k : Nat) : Int) = (s : Int) / 2 ^ k := by rw [Int.natCast_ediv, Int.natCast_pow]; rfl
      rw [ec] at b2
      clear ec
      rcases (by omega : s % 2 = 0 ∨ s % 2 = 1) with e1 | e1
      · have f1 : (bits BinOp.and IntKind.i64 (s : Int) 1 == 0) = true := by rw [b1, e1]; rfl
        clear b1 b2
        go_wp2_with fail
        exact ⟨⟨k + 1, by omega, by go_num, TBk.out.skip (.inl e1)⟩, by simp [intOf]; omega⟩
      · have f1 : (bits BinOp.and IntKind.i64 (s : Int) 1 == 0) = false := by rw [b1, e1]; rfl
        rcases (by omega : s / 2 ^ k % 2 = 0 ∨ s / 2 ^ k % 2 = 1) with e2 | e2
        · have f2 : (bits BinOp.and IntKind.i64 ((s : Int) / 2 ^ k) 1 == 0) = true := by rw [b2, e2]; rfl
          clear b1 b2
          go_wp2_with fail
          exact ⟨⟨k + 1, by omega, by go_num, TBk.out.skip (.inr e2)⟩, by simp [intOf]; omega⟩
        · have f2 : (bits BinOp.and IntKind.i64 ((s : Int) / 2 ^ k) 1 == 0) = false := by rw [b2, e2]; rfl
          clear b1 b2
          have hlen := (HG.out k hkn).1
          by_cases hsA : A ≤ s
          · have f3 : ((s : Int) == (A : Int)) = true := by simp; omega
            obtain ⟨b, off, b2', off2, cap2, ha, c1, c2⟩ := (HV.out.below TBk.out.below).num (i := k) (j := 0) hkn (by omega)
            subst ha
            rw [hlen] at c1
            obtain ⟨x, hx⟩ : ∃ x, (M k).getD 0 0 = x := ⟨_, rfl⟩
            have Hx := Lib.hid hx
            rw [hx, Nat.add_zero] at c2
            clear hx
            obtain ⟨u1, hu1⟩ := TBk.out.all (s * 24 + k * 2) (by omega)
            obtain ⟨u2, hu2⟩ := TBk.out.all (s * 24 + k * 2 + 1) (by omega)
            have fz := TBk.out.fz
            have z1 : (0 : Int) < (n : Int) := by omega
            have z2 : (k : Int) < (n : Int) := by omega
            have z3 : (0 : Int) ≤ (k : Int) := by omega
            have z4 : (k : Int) < 12 := by omega
            have z5 : (s : Int) < 4096 := by omega
            have z6 : (0 : Int) ≤ (s : Int) := by omega
            have z7 : 0 < n := by omega
            have z8 : k < 12 := by omega
            have z9 : s < 4096 := by omega
            go_wp2_with fail
            refine region_tail 11 (by kernel_rfl) (by kernel_rfl) ?_
            simp only [List.take_succ_cons, List.take_zero, List.drop_succ_cons, List.drop_zero]
            repeat still_step
            refine wpStill_nil ?_
            go_wp2_with fail
            have hT : T far n s k = (x, -1) := by
              rw [show s = 2 ^ n - 1 by have := HA.out; omega, T_last, HFar.out, Hx.out]
            have st := TBk.out.store (by have := HA.out; omega) hn hkn
            rw [hT] at st
            exact ⟨⟨k + 1, by omega, by go_num, st.step ((Below.refl _ _).drew)⟩, by simp [intOf]; omega⟩
          · have f3 : ((s : Int) == (A : Int)) = false := by simp; omega
            go_wp2_with fail
            obtain ⟨w9, rfl⟩ : ∃ w9, w9 = wr := ⟨_, rfl⟩
            have own0 := Lib.hid (World.ownsRow_nil w9 w9.heap.size 102 2)
            go_loopw [12, 79] (fun wv i wr2 => ∃ (j : Nat) (v : Value), j ≤ n ∧ i = .int .i64 j ∧ v = wv ∧ Below w9.heap.size w9 wr2 ∧ wr2.ownsRow w9.heap.size 102 2 v (ways far (T far n) j s k).length (legCells (ways far (T far n) j s k))) (fun _ i _ => n - (intOf i).toNat)
            case atStart => exact ⟨0, _, Nat.zero_le _, rfl, rfl, Below.refl _ _, by simpa [ways, legCells] using own0.out⟩
            obtain ⟨j, v, hj, rfl, rfl, bel2, own2⟩ := hrel
            have Bel2 := Lib.hid bel2
            have Own2 := Lib.hid own2
            have TBj := Lib.hid (TBk.out.step bel2)
            clear bel2 own2
            by_cases hjn : j < n
            case pos =>
              have b3 := and_i64 (s / 2 ^ j) (by have := Nat.div_le_self s (2 ^ j); omega)
              have ec : ((s / 2 ^ j : Nat) : Int) = (s : Int) / 2 ^ j := by rw [Int.natCast_ediv, Int.natCast_pow]; rfl
              rw [ec] at b3
              clear ec
              rcases (by omega : s / 2 ^ j % 2 = 1 ∨ s / 2 ^ j % 2 = 0) with e3 | e3
              · have f4 : (bits BinOp.and IntKind.i64 ((s : Int) / 2 ^ j) 1 == 0) = false := by rw [b3, e3]; rfl
                clear b3
                go_wp2_with fail
                exact ⟨⟨j + 1, _, by omega, by go_num, rfl, Bel2.out, by rw [ways_succ, if_neg (by omega), List.append_nil]; exact Own2.out⟩, by simp [intOf]; omega⟩
              · have f4 : (bits BinOp.and IntKind.i64 ((s : Int) / 2 ^ j) 1 == 0) = true := by rw [b3, e3]; rfl
                clear b3
                obtain ⟨b, off, b2', off2, cap2, ha, c1, c2⟩ := (HV.out.below TBj.out.below).num (i := k) (j := j) hkn (by omega)
                subst ha
                rw [hlen] at c1
                have hj0 : j ≠ 0 := by rintro rfl; rw [Nat.pow_zero, Nat.div_one] at e3; omega
                have hadd := add_bit (n := n) (by have := HA.out; omega) hjn e3
                have z1 : (j : Int) < (n : Int) := by omega
                have z2 : (k : Int) < (n : Int) := by omega
                have z3 : (0 : Int) ≤ (k : Int) := by omega
                have z4 : (0 : Int) ≤ (j : Int) := by omega
                have z5 : (s : Int) < 4096 := by omega
                have z7 : j < n := by omega
                have z8 : j < 12 := by omega
                have z13 : (j : Int) < 12 := by omega
                have z9 : s < 4096 := by omega
                have hq1 : (s + 2 ^ j) % 2 = 1 := by
                  obtain ⟨m, hm⟩ : ∃ m, j = m + 1 := ⟨j - 1, by omega⟩
                  rw [hm, Nat.pow_succ]; omega
                have hq2 : (s + 2 ^ j) / 2 ^ j % 2 = 1 := by rw [Nat.add_div_right _ (Nat.two_pow_pos j)]; omega
                have hp := Nat.two_pow_pos j
                obtain ⟨d1, d2⟩ := TBj.out.val (s + 2 ^ j) j hadd hjn hq1 hq2 (.inl (by omega))
                have hpj : 2 ^ j < 4096 := by have := HA.out; omega
                have fo : bits BinOp.or IntKind.i64 (s : Int) (IntKind.i64.wrap (2 ^ j)) = ((s + 2 ^ j : Nat) : Int) := by
                  have hw2 : IntKind.i64.wrap ((2 : Int) ^ j) = ((2 ^ j : Nat) : Int) := by
                    rw [show ((2 : Int) ^ j) = ((2 ^ j : Nat) : Int) by rw [Int.natCast_pow]; rfl]
                    exact IntWalk.i64_in _ (by omega)
                  rw [hw2, or_i64 s (2 ^ j) (by omega) hpj, or_bits j s (by omega) (by omega) e3]
                clear hq1 hq2
                generalize hq : s + 2 ^ j = q at *
                have z10 : q < 4096 := by have := HA.out; omega
                have z11 : (q : Int) < 4096 := by omega
                have z12 : (0 : Int) ≤ (q : Int) := by omega
                have Hq := Lib.hid hq
                have Hadd := Lib.hid hadd
                clear hq hp hpj hadd
                have bx := HF.out k j
                rw [HFar.out] at bx
                have bt := T_bound (n := n) HF.out q j Hadd.out
                have hN : ((2 ^ n : Nat) : Int) ≤ 4096 := by have := HA.out; omega
                obtain ⟨x, hx⟩ : ∃ x, (M k).getD j 0 = x := ⟨_, rfl⟩
                obtain ⟨y, hy⟩ : ∃ y, (T far n q j).1 = y := ⟨_, rfl⟩
                have hs1 : IntKind.i64.wrap (x + y) = x + y := IntWalk.i64_in _ (by omega)
                have HXY : Hid (far k j = x ∧ (T far n q j).1 = y) := Lib.hid (And.intro ((HFar.out k j).trans hx) hy)
                rw [hx] at c2
                rw [hy] at d1
                clear hx hy bx bt hN d2
                obtain ⟨ln, hln⟩ : ∃ ln, (ways far (T far n) j s k).length = ln := ⟨_, rfl⟩
                have hl5 := ways_len far (T far n) s k j
                have own3 := Own2.out
                rw [hln] at own3 hl5
                have Own3 := Lib.hid own3
                have i1 : ln + 1 ≤ maxLen := by unfold maxLen; omega
                have i2 : (ln + 1) * 16 ≤ 140737488355328 := by omega
                have I1 := Lib.hid i1
                have I2 := Lib.hid i2
                have Z := Lib.hid Bel2.out.size
                have Hln := Lib.hid hln
                clear own3 hl5 i1 i2 hln
                have OwnAt : ∀ o : Obj, Hid ((wr.alloc o).drew.ownsRow w9.heap.size 102 2 v ln (legCells (ways far (T far n) j s k))) := fun o => Lib.hid (own_below_any Own3.out (((Below.refl _ _).alloc (Nat.le_refl _) _).drew))
                have Base : ∀ o : Obj, Hid (w9.heap.size ≤ (wr.alloc o).drew.heap.size) := fun o => Lib.hid (by have := Z.out; simp; omega)
                go_wp2_with fail
                go_region_law ((refine step_app2 _ (by rfl) (.tmp 87) (.tmp 107) 105 (by rfl) w9.heap.size 102 _ 16 Try.underlying105 info102 (by rfl) v ln _ (by rfl) (OwnAt _).out wr.heap.size (.int .i64 (x + y)) (.int .i64 j) (by rfl) (cell20 _ _ _ _) (cell21 _ _ _ _) (by rfl) (by rfl) I1.out I2.out (Base _).out ?_; intro v' w12 own' bel'))
                go_wp2_with fail
                all_goals
                  obtain ⟨q1, q2⟩ := ways_cells_succ (far := far) (t := T far n) (a := k) e3 Hq.out HXY.out.1 HXY.out.2 Hln.out
                  exact ⟨⟨j + 1, _, by omega, by go_num, rfl, Bel2.out.trans ((((Below.refl _ _).alloc Z.out _).drew).trans bel'), by rw [q1, q2]; exact own'⟩, by simp [intOf]; omega⟩
            obtain rfl : n = j := by omega
            have own3 := Own2.out
            have hs2 : s < 2 ^ n - 1 := by have := HA.out; omega
            have LG := Lib.hid (legs_own own3 (ways_some hs2) (by have := ways_len far (T far n) s k n; omega))
            have LGd := Lib.hid LG.out.drew
            have TL := Lib.hid (T_least far n s k hs2)
            have z2 : (k : Int) < (n : Int) := by omega
            have z3 : (0 : Int) ≤ (k : Int) := by omega
            have z4 : (k : Int) < 12 := by omega
            have z5 : (s : Int) < 4096 := by omega
            have z6 : (0 : Int) ≤ (s : Int) := by omega
            have z8 : k < 12 := by omega
            have z9 : s < 4096 := by omega
            clear own3 hs2
            go_wp2_with fail
            trace "at 33"
            go_region_with (go_at_call 45; refine (least45 _ (ways far (T far n) n s k) _ (by first | exact LG.out | exact LGd.out)).mono ?_; rintro e w12 ⟨rfl, bel12⟩; rw [← TL.out]; have TBn := Lib.hid (TBj.out.step (((Below.refl _ _).drew).trans bel12)); obtain ⟨u1, hu1⟩ := TBn.out.all (s * 24 + k * 2) (by omega); obtain ⟨u2, hu2⟩ := TBn.out.all (s * 24 + k * 2 + 1) (by omega); have fz := TBn.out.fz)
            trace "past 33"
            go_wp2_with fail
            exact ⟨⟨k + 1, by omega, by go_num, TBn.out.store (by have := HA.out; omega) hn hkn⟩, by simp [intOf]; omega⟩
    obtain rfl : n = k := by omega
    have e2 : s - 1 + 1 = s := by omega
    have TBs2 := TBk.out
    rw [← e2] at TBs2
    have TBs3 := Lib.hid TBs2.next
    clear TBs2 e2
    go_wp2_with fail
    exact ⟨⟨s - 1, by omega, congrArg (Value.int .i64) (by omega), TBs3.out⟩, by simp [intOf]; omega⟩
  have hs0 : s ≤ 0 := by omega
  have hs1 : decide (0 < s) = false := by simp; omega
  clear hs h0
  obtain ⟨w9, rfl⟩ : ∃ w9, w9 = wr := ⟨_, rfl⟩
  have TI := Lib.hid (TourInv.start far h2)
  have own0 := Lib.hid (own_lit w9 (.int .i64 0))
  go_wp2_with fail
  go_loopw [14, 15, 16] (fun vo vs va wr2 => ∃ (don : List Int) (S a f : Nat) (v' : Value), v' = vo ∧ vs = .int .i64 S ∧ va = .int .i64 a ∧ TourInv far n don S a f ∧ Below w9.heap.size w9 wr2 ∧ wr2.ownsRow w9.heap.size 3 1 v' don.length (don.map (Value.int .i64))) (fun _ vs _ _ => A - (intOf vs).toNat)
  case atStart => exact ⟨[0], 1, 0, _, _, rfl, rfl, rfl, TI.out, (Below.refl _ _).alloc (Nat.le_refl _) _, own0.out⟩
  obtain ⟨don, S, a, f, v', rfl, rfl, rfl, ti, bel, own⟩ := hrel
  have Bel := Lib.hid bel
  have Own := Lib.hid own
  have TBn := Lib.hid (TBs.out.step bel)
  have Ti := Lib.hid ti
  have Sz := Lib.hid bel.size
  have q1 : S ≤ A := by have := ti.lt; have := HA.out; omega
  have q2 := ti.odd
  have q3 := ti.an
  have q4 := ti.len
  clear bel own
  by_cases hSA : S = A
  case neg =>
    obtain ⟨j, ej, j0, jn, hb, hadd, tin⟩ := ti.next HF.out (by have := HA.out; omega)
    obtain ⟨_, d2⟩ := TBn.out.val S a ti.lt q3 q2 ti.bit (.inl (by omega))
    rw [ej] at d2
    have Tin := Lib.hid tin
    have hpj : 2 ^ j < 4096 := by have := HA.out; omega
    have hpp := Nat.two_pow_pos j
    have fo : bits BinOp.or IntKind.i64 (S : Int) (wrap64 (2 ^ j)) = ((S + 2 ^ j : Nat) : Int) := by
      have hw2 : wrap64 ((2 : Int) ^ j) = ((2 ^ j : Nat) : Int) := by
        rw [show ((2 : Int) ^ j) = ((2 ^ j : Nat) : Int) by rw [Int.natCast_pow]; rfl]
        exact IntWalk.wrap64_in _ ⟨by omega, by omega⟩
      rw [hw2, or_i64 S (2 ^ j) (by omega) hpj, or_bits j S (by omega) (by omega) hb]
    have qA : S + 2 ^ j ≤ A := by have := HA.out; omega
    generalize hq : S + 2 ^ j = q at *
    have f6 : ((S : Int) == (A : Int)) = false := by simp; omega
    have f7 : ((S : Int) != (A : Int)) = true := by simp; omega
    have z1 : (0 : Int) ≤ (S : Int) := by omega
    have z2 : (S : Int) < 4096 := by omega
    have z3 : (0 : Int) ≤ (a : Int) := by omega
    have z4 : (a : Int) < 12 := by omega
    have z5 : S < 4096 := by omega
    have z6 : a < 12 := by omega
    have z7 : (0 : Int) ≤ (j : Int) := by omega
    have z8 : (j : Int) < 12 := by omega
    obtain ⟨ln, hln⟩ : ∃ ln, don.length = ln := ⟨_, rfl⟩
    rw [hln] at q4
    have own3 := Own.out
    rw [hln] at own3
    have Own3 := Lib.hid own3
    have I1 := Lib.hid (show ln + 1 ≤ maxLen by unfold maxLen; omega)
    have I2 := Lib.hid (show (ln + 1) * 8 ≤ 140737488355328 by omega)
    have HN := Lib.hid (show S < q by omega)
    have HQ := Lib.hid qA
    have Hln := Lib.hid hln
    clear ti ej hb hadd tin hpj hpp hq own3 hln q4 qA hSA
    go_wp2_with (at_builtin; refine wpList_app1 _ rfl _ _ 36 rfl w9.heap.size 3 (.int .i64 0) 8 Try.underlying36 info3t rfl _ _ _ rfl (Own3.out.alloc _) wr.heap.size (.int .i64 j) rfl (cell1_new _ _ _) rfl I1.out I2.out (Nat.le_trans Sz.out (size_alloc_le _ _)) ?_; intro v2 w12 own' bel')
    exact ⟨⟨don ++ [(j : Int)], q, j, f - 1, _, rfl, rfl, rfl, Tin.out, Bel.out.trans (below_alloc1 Sz.out bel'), by rw [List.length_append, Hln.out, List.map_append]; exact own'⟩, by have := HN.out; have := HQ.out; simp [intOf]; omega⟩
  have hd := ti.done (by have := HA.out; omega)
  subst hSA
  have f6 : ((S : Int) == (S : Int)) = true := by simp
  have f7 : ((S : Int) != (S : Int)) = false := by simp
  have c24 := (TBn.out.val 1 0 (by have := HA.out; omega) (by omega) rfl rfl (.inl (by omega))).1
  simp only [Nat.one_mul, Nat.zero_mul, Nat.add_zero] at c24
  obtain ⟨y, hy⟩ : ∃ y, (T far n 1 0).1 = y := ⟨_, rfl⟩
  rw [hy] at c24
  have Hy := Lib.hid hy
  have own3 := own_base Own.out TBs.out.below.size
  rw [hd] at own3
  have Own3 := Lib.hid own3
  have BelF := Lib.hid (below_upto TBs.out.below Bel.out)
  clear ti hd own3 hy q2 q3 q4
  go_wp2_with fail
  go_quiet (fail)
  go_wp2_with fail
  trace "the end"
  refine bodyPost_ret (v := .tuple #[v', .int .i64 y, .int .i64 0]) (by simp [results, Try.results15, go_sem]) rfl ⟨v', by rw [Hy.out], ?_, ?_⟩
  · exact own_below_any Own3.out (below_drewN (Below.refl _ _) _)
  · exact BelF.out.trans (below_drewN (Below.refl _ _) _)
end Go.Proofs.Ytomcdnkafgmleaa
