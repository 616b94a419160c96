/- The law of the shortest round: the ways laid out. -/
import Derived.Test.YtomcdnkafgmleaaU4
namespace Go.Proofs.Ytomcdnkafgmleaa
open Go.RowKit

theorem mul_small {i m : Nat} (hi : i < 6) (hm : m ≤ 6) : ∃ q : Nat, i * m = q ∧ q ≤ 36 ∧ (i : Int) * (m : Int) = (q : Int) := by
  refine ⟨i * m, rfl, ?_, (Int.natCast_mul i m).symm⟩
  calc i * m ≤ 6 * 6 := Nat.mul_le_mul (by omega) hm
    _ = 36 := rfl

set_option maxRecDepth 100000 in
set_option maxHeartbeats 4000000 in
theorem shortest5 (v0 : Value) (h : List Int) (N : Int) (w : World) (hv : Ints w v0 h) (hel : ∀ x ∈ h, -9223372036854775808 ≤ x ∧ x ≤ 9223372036854775807) (hN : -9223372036854775808 ≤ N ∧ N ≤ 9223372036854775807) :
    Calls Try.prog 5 #[v0, .int .i64 N] w fun e w' => e = .returned (.bool true) ∧ Below w.heap.size w w' := by
  obtain ⟨m, hm1, hm2, hwi⟩ := within_nat N 1 6 hN.1 hN.2 (by decide) (by decide) (by decide)
  obtain ⟨a0, cap0, rfl, hlen⟩ := ints_form hv
  have HI := Lib.hid hv
  have HE : Hid (∀ i, i < h.length → -9223372036854775808 ≤ h.getD i 0 ∧ h.getD i 0 ≤ 9223372036854775807) := Lib.hid fun i hi => hel _ (by rw [List.getD_eq_getElem?_getD, List.getElem?_eq_getElem hi]; exact List.getElem_mem _)
  have HW := Lib.hid hwi
  have m1 : 1 ≤ m := by omega
  have m2 : m ≤ 6 := by omega
  have mat0 := Lib.hid (Mat.nil w.heap.size m w)
  generalize hLn : h.length = L at *
  have HL := Lib.hid hLn
  clear hv hel hwi hLn hN
  go_enter Try.func5, Try.ntmps5
  go_wp2_with fail
  refine (HW.out _).mono ?_
  rintro e w' ⟨rfl, rfl⟩
  go_wp2_with fail
  go_loopw [5, 6] (fun v i wr => ∃ (v' : Value) (rows : List (Value × List Int)), v' = v ∧ rows.length ≤ m ∧ i = .int .i64 (rows.length : Nat) ∧ Mat w.heap.size wr v' m rows ∧ Below w.heap.size w wr) (fun _ i _ => m - (intOf i).toNat)
  case atStart => exact ⟨_, [], rfl, Nat.zero_le _, rfl, mat0.out, Below.refl _ _⟩
  obtain ⟨v, rows, rfl, hk, rfl, mat, bel⟩ := hrel
  have Mt := Lib.hid mat
  have Bel := Lib.hid bel
  obtain ⟨k, hkk⟩ : ∃ k, rows.length = k := ⟨_, rfl⟩
  have HK := Lib.hid hkk
  rw [hkk] at hk
  rw [hkk]
  clear mat bel hkk mat0
  by_cases hlt : k < m
  case pos =>
    obtain ⟨q, _, hq36, hq⟩ := mul_small (show k < 6 by omega) m2
    have wq : wrap64 ((k : Int) * (m : Int)) = (q : Int) := by rw [hq]; exact IntWalk.wrap64_in _ ⟨by omega, by omega⟩
    obtain ⟨w9, rfl⟩ : ∃ w9, w9 = wr := ⟨_, rfl⟩
    have own0 := Lib.hid (World.ownsRow_nil w9 w9.heap.size 3 1)
    clear hq
    go_wp2_with fail
    go_loopw [7, 8] (fun v i wr => ∃ (j : Nat) (v' : Value) (ys : List Int), v' = v ∧ j ≤ m ∧ i = .int .i64 j ∧ ys.length = j ∧ ys.all okF = true ∧ Below w9.heap.size w9 wr ∧ wr.ownsRow w9.heap.size 3 1 v' j (ys.map (Value.int .i64))) (fun _ i _ => m - (intOf i).toNat)
    case atStart => exact ⟨0, _, [], rfl, Nat.zero_le _, rfl, rfl, rfl, Below.refl _ _, own0.out⟩
    obtain ⟨j, rv, ys, rfl, hj, rfl, hys, hok, bel2, own2⟩ := hrel
    have Ys := Lib.hid (And.intro hys hok)
    have Bel2 := Lib.hid bel2
    have Own2 := Lib.hid own2
    have Sz := Lib.hid bel2.size
    clear hys hok bel2 own2
    by_cases hjm : j < m
    case pos =>
      have I1 := Lib.hid (show j + 1 ≤ maxLen by unfold maxLen; omega)
      have I2 := Lib.hid (show (j + 1) * 8 ≤ 140737488355328 by omega)
      by_cases hin : q + j < L
      · have hin2 : (q : Int) + (j : Int) < (L : Int) := by omega
        obtain ⟨b, off, rfl, _, hcell⟩ := arg_form HL.out (by omega) HI.out (Bel.out.trans (Bel2.out.mono Bel.out.size))
        have c := hcell (q + j) hin
        obtain ⟨r1, r2⟩ := HE.out (q + j) hin
        obtain ⟨x, hx⟩ : ∃ x, h.getD (q + j) 0 = x := ⟨_, rfl⟩
        rw [hx] at c r1 r2
        obtain ⟨y, hy1, hy2, hwy⟩ := within_nat x 0 1000000000 r1 r2 (by decide) (by decide) (by decide)
        have Wy := Lib.hid hwy
        have z1 : ((q : Int) + (j : Int)).toNat = q + j := by omega
        have z2 : (0 : Int) ≤ (q : Int) + (j : Int) := by omega
        clear hx hcell hwy r1 r2
        go_wp2_with fail
        refine (Wy.out _).mono ?_
        rintro e w' ⟨rfl, rfl⟩
        clear c z1
        go_wp2_with (at_builtin; go_loud (refine wpList_app1 _ rfl _ _ 36 rfl w9.heap.size 3 (.int .i64 0) 8 Try.underlying36 info3 rfl _ _ _ rfl (Own2.out.alloc _) wr.heap.size (.int .i64 y) rfl (cell1_new _ _ _) rfl I1.out I2.out (Nat.le_trans Sz.out (size_alloc_le _ _)) ?_); intro v' w2 hown' hbel)
        exact ⟨⟨j + 1, _, ys ++ [(y : Int)], rfl, by omega, by go_num, by rw [List.length_append, Ys.out.1]; rfl, by rw [List.all_append, Ys.out.2]; simp [okF]; omega, Bel2.out.trans (below_alloc1 Sz.out hbel), by rw [List.map_append]; exact hown'⟩, by simp [intOf]; omega⟩
      · have hin2 : ¬ (q : Int) + (j : Int) < (L : Int) := by omega
        go_wp2_with (at_builtin; go_loud (refine wpList_app1 _ rfl _ _ 36 rfl w9.heap.size 3 (.int .i64 0) 8 Try.underlying36 info3 rfl _ _ _ rfl (Own2.out.alloc _) wr.heap.size (.int .i64 1) rfl (cell1_new _ _ _) rfl I1.out I2.out (Nat.le_trans Sz.out (size_alloc_le _ _)) ?_); intro v' w2 hown' hbel)
        exact ⟨⟨j + 1, _, ys ++ [(1 : Int)], rfl, by omega, by go_num, by rw [List.length_append, Ys.out.1]; rfl, by rw [List.all_append, Ys.out.2]; rfl, Bel2.out.trans (below_alloc1 Sz.out hbel), by rw [List.map_append]; exact hown'⟩, by simp [intOf]; omega⟩
    obtain rfl : m = j := by omega
    obtain ⟨g, cap, rfl, hg1, hg2, hg3, hg4, hg5, _⟩ := own_room Own2.out m1
    have M2 := Lib.hid (Mt.out.below Bel2.out)
    have Gc : Hid (∀ j, j < m → wr.cell? ⟨g, j, none⟩ = some (.int .i64 (ys.getD j 0))) := Lib.hid fun j hj => hg5 j _ (by
      have : j < ys.length := by rw [Ys.out.1]; exact hj
      rw [List.getElem?_map, List.getD_eq_getElem?_getD, List.getElem?_eq_getElem this]; rfl)
    have Gv : Hid (v.ownBlock ≠ some g) := Lib.hid fun e => by
      have := (Mt.out.own.lt g e).2
      omega
    have B5 := Lib.hid (Bel.out.trans (Bel2.out.mono Bel.out.size))
    have S5 := Lib.hid B5.out.size
    have own6 := M2.out.own
    rw [HK.out] at own6
    have Own6 := Lib.hid own6
    have I1 := Lib.hid (show k + 1 ≤ maxLen by unfold maxLen; omega)
    have I2 := Lib.hid (show (k + 1) * 24 ≤ 140737488355328 by omega)
    clear own6 hg5
    go_wp2_with (at_builtin; go_loud (refine wpList_appFar _ rfl _ _ 35 rfl w.heap.size 36 (.slice none 0 0) 24 Try.underlying35 info36 rfl _ _ _ rfl (Own6.out.alloc _) wr.heap.size (.slice (some ⟨g, 0, none⟩) m cap) rfl (cell1_new _ _ _) rfl I1.out I2.out (Nat.le_trans S5.out (size_alloc_le _ _)) ?_); intro v' w2 hown' hgr hbel hob)
    have M7 := Mat.add (ys := ys) M2.out rfl Ys.out.1 hg2 Gv.out Gc.out Ys.out.2 (by rw [HK.out]; exact hown') hgr hob
    exact ⟨⟨_, rows ++ [(.slice (some ⟨g, 0, none⟩) m cap, ys)], rfl, by rw [List.length_append, HK.out]; simp; omega, by rw [List.length_append, HK.out]; rfl, M7, B5.out.trans (below_alloc1 S5.out hbel)⟩, by simp [intOf]; omega⟩
  obtain rfl : m = k := by omega
  obtain ⟨far, hfar⟩ : ∃ far : Nat → Nat → Int, ∀ i j, far i j = (rowsM rows i).getD j 0 := ⟨_, fun _ _ => rfl⟩
  obtain ⟨hgood, hnil⟩ := Mt.out.good HK.out
  have hb : ∀ i j, 0 ≤ far i j ∧ far i j ≤ 1000000000 := fun i j => by rw [hfar]; exact far_bound hgood hnil i j
  have HFar := Lib.hid hfar
  have HB := Lib.hid hb
  have Good := Lib.hid hgood
  have Nil := Lib.hid hnil
  have R2 := Lib.hid (Mt.out.rows2 HK.out m1 (by omega) (by omega))
  have Ans := Lib.hid (ans_order hb m2 m1)
  have RL : Hid (∀ i, i < m → (rowsM rows i).length = m) := Lib.hid fun i hi => (hgood i hi).1
  clear hgood hnil hb hfar
  go_wp2_with fail
  refine (trip_any v m (rowsM rows) far HFar.out wr R2.out m1 m2 Good.out Nil.out).mono ?_
  rintro e W1 ⟨av, rfl, ia, bel1⟩
  have RM := Lib.hid (R2.out.below bel1)
  have BF := Lib.hid (Bel.out.trans (bel1.mono Bel.out.size))
  obtain ⟨A, hA⟩ : ∃ A, ans far m = A := ⟨_, rfl⟩
  obtain ⟨mm, hmm⟩ : ∃ x, ansM far m = x := ⟨_, rfl⟩
  have hone : m = 1 → mm = 0 := fun e => by rw [← hmm]; exact if_pos e
  rw [hA] at ia Ans
  rw [hmm] at Ans ⊢
  have Al := Lib.hid Ans.out.1.len
  obtain ⟨gb, go_, gc, rfl, hca⟩ := ia.get (by rw [Al.out]; exact m1)
  have IA := Lib.hid ia
  have c00 : W1.cell? ⟨gb, go_, none⟩ = some (.int .i64 0) := by
    have := hca 0 (by rw [Al.out]; exact m1)
    rw [Ans.out.1.zero] at this
    simpa using this
  have HCA := Lib.hid hca
  rw [Al.out] at IA HCA ⊢
  clear bel1 ia hca hA hmm Mt Bel R2 Good Nil HW
  obtain ⟨bb, hbb, hltb⟩ : ∃ bb, bb = gb ∧ bb < W1.heap.size := ⟨gb, rfl, World.block_lt_of_cell? W1 ⟨gb, go_, none⟩ c00⟩
  subst hbb
  go_wp2_with fail
  have SN0 := Lib.hid (Seen.start W1)
  clear c00
  go_loopw [14] (fun i wr => ∃ k : Nat, k ≤ m ∧ i = .int .i64 k ∧ Seen wr W1.heap.size (A.take k) ∧ Below W1.heap.size W1 wr) (fun i _ => m - (intOf i).toNat)
  case atStart => exact ⟨0, Nat.zero_le _, rfl, SN0.out, (Below.refl _ _).alloc (Nat.le_refl _) _⟩
  clear SN0
  obtain ⟨k, hk2, rfl, sn, bel⟩ := hrel
  have Sn := Lib.hid sn
  have Bel := Lib.hid bel
  clear sn bel
  by_cases hkm : k < m
  case pos =>
    have ca : wr.cell? ⟨bb, go_ + k, none⟩ = some (.int .i64 (A.getD k 0)) := by rw [Bel.out.cell (p := ⟨bb, go_ + k, none⟩) hltb]; exact HCA.out k hkm
    obtain ⟨q, hq, lq⟩ := Ans.out.1.at hkm
    have hnot := nodup_take Ans.out.1.nodup (i := k) (by rw [Al.out]; exact hkm)
    have htk := take_succ_getD A (i := k) (by rw [Al.out]; exact hkm)
    rw [hq] at ca hnot htk
    have cs := Sn.out.1 q (by omega)
    rw [decide_eq_false hnot] at cs
    have fz := Sn.out.2.1
    have St := Lib.hid (Sn.out.store (q := q) (by omega))
    rw [← htk] at St
    have z1 : (k : Int) < (m : Int) := by omega
    have z2 : (0 : Int) ≤ (k : Int) := by omega
    have z3 : (q : Int) < 6 := by omega
    have z4 : (0 : Int) ≤ (q : Int) := by omega
    have z5 : decide (m ≤ q) = false := by simp; omega
    have z6 : decide ((q : Int) < 0) = false := by simp
    clear hnot htk hq
    go_wp2_with fail
    exact ⟨⟨k + 1, by omega, by go_num, St.out, Bel.out.setCell (Nat.le_refl _) _⟩, by simp [intOf]; omega⟩
  obtain rfl : m = k := by omega
  clear Sn
  by_cases h1m : 1 < m
  · have e1 : decide (1 < m) = true := by simp; omega
    have HL19 := Lib.hid (Ans.out.2 h1m).1
    go_wp2_with fail
    refine (long19 v _ m (rowsM rows) far A wr HFar.out HB.out (RM.out.below Bel.out) RL.out (IA.out.below Bel.out) Al.out m1 (by omega) (fun k hk => Ans.out.1.at hk)).mono ?_
    rintro e w5 ⟨rfl, bel5⟩
    rw [HL19.out]
    have B5 := Lib.hid (Bel.out.trans (bel5.mono Bel.out.size))
    clear bel5 Bel e1
    have e0 : (mm != mm) = false := by simp
    have e9 : ((m : Int) == 1) = false := by
      have : ¬ (m : Int) = 1 := by omega
      simpa using this
    go_wp2_with fail
    have Bel := Lib.hid B5.out
    clear B5
    generalize w5 = wr at *
    go_loopw [15, 16] (fun ov i wr => ∃ (t : Nat) (ov' : Value) (p : List Int), ov' = ov ∧ t ≤ 120 ∧ i = .int .i64 t ∧ Ints wr ov' p ∧ Order m p ∧ Below W1.heap.size W1 wr) (fun _ i _ => 120 - (intOf i).toNat)
    case atStart => exact ⟨0, _, ups m, rfl, Nat.zero_le _, rfl, (ups_ints _ m m1 m2), ups_order m1, Bel.out.trans ((Below.refl _ _).alloc Bel.out.size _)⟩
    clear Bel
    obtain ⟨t, ov, p, rfl, ht, rfl, ip, op, bel⟩ := hrel
    have Bel := Lib.hid bel
    have Ip := Lib.hid ip
    have Op := Lib.hid op
    clear bel ip op
    by_cases ht2 : t < 120
    case pos =>
      go_wp2_with fail
      refine (long19 v ov m (rowsM rows) far p wr HFar.out HB.out (RM.out.below Bel.out) RL.out Ip.out Op.out.len m1 (by omega) (fun k hk => Op.out.at hk)).mono ?_
      rintro e w5 ⟨rfl, bel5⟩
      have B5 := Lib.hid (Bel.out.trans (bel5.mono Bel.out.size))
      have I5 := Lib.hid (Ip.out.below bel5)
      clear bel5
      obtain ⟨q1, q2⟩ := (Ans.out.2 h1m).2 p Op.out
      have F4 := Lib.hid q2
      obtain ⟨lp, hlp⟩ : ∃ x, longTo far p m = x := ⟨_, rfl⟩
      rw [hlp] at q1 F4
      rw [hlp]
      clear hlp q2
      have e1 : decide (1 < m) = true := by simp; omega
      have e2 : decide (lp < mm) = false := by simp; omega
      by_cases hlm : mm = lp
      · have e3 : (lp == mm) = true := by simp [hlm]
        have F5 := Lib.hid (F4.out hlm)
        clear hlm
        go_wp2_with fail
        refine (less20 ov _ m p A w5 I5.out (IA.out.below B5.out) Op.out.len Al.out m1 (by omega)).mono ?_
        rintro e w6 ⟨rfl, bel6⟩
        rw [F5.out]
        have B6 := Lib.hid (B5.out.trans (bel6.mono B5.out.size))
        have I6 := Lib.hid (I5.out.below bel6)
        clear bel6 q1
        go_wp2_with fail
        refine (next21 ov m p _ I6.out Op.out.len m1 (by omega)).mono ?_
        rintro e w7 ⟨nv, p', rfl, ip7, bel7, hor⟩
        have B7 := Lib.hid (B6.out.trans (bel7.mono B6.out.size))
        obtain ⟨a7, c7, rfl, hl7⟩ := ints_form ip7
        have I7 := Lib.hid ip7
        have O7 : Hid (p' = [] ∨ Order m p') := Lib.hid (by
          rcases hor with h | ⟨h1, h2⟩
          · exact .inl h
          · exact .inr (Op.out.perm h1 (h2.trans Op.out.zero)))
        clear ip7 bel7 hor
        by_cases hp0 : p'.length = 0
        · have f9 : ((p'.length : Int) == 0) = true := by simp; exact List.eq_nil_of_length_eq_zero hp0
          generalize p'.length = z at *
          clear hp0
          go_wp2_with fail
          go_ret
          exact ⟨rfl, BF.out.trans (B7.out.mono BF.out.size)⟩
        · have f9 : ((p'.length : Int) == 0) = false := by
            have : ¬ ((p'.length : Int) = 0) := by omega
            simpa using this
          have O8 : Hid (Order m p') := Lib.hid (by
            rcases O7.out with h | h
            · exact absurd (by rw [h]; rfl) hp0
            · exact h)
          generalize hz : p'.length = z at *
          clear hp0 hz
          go_wp2_with fail
          exact ⟨⟨t + 1, _, p', rfl, by omega, by go_num, I7.out, O8.out, B7.out⟩, by simp [intOf]; omega⟩

      · have e3 : (lp == mm) = false := by
          have : ¬ lp = mm := fun h => hlm h.symm
          simpa using this
        clear hlm q1
        go_wp2_with fail
        refine (next21 ov m p _ I5.out Op.out.len m1 (by omega)).mono ?_
        rintro e w7 ⟨nv, p', rfl, ip7, bel7, hor⟩
        have B7 := Lib.hid (B5.out.trans (bel7.mono B5.out.size))
        obtain ⟨a7, c7, rfl, hl7⟩ := ints_form ip7
        have I7 := Lib.hid ip7
        have O7 : Hid (p' = [] ∨ Order m p') := Lib.hid (by
          rcases hor with h | ⟨h1, h2⟩
          · exact .inl h
          · exact .inr (Op.out.perm h1 (h2.trans Op.out.zero)))
        clear ip7 bel7 hor
        by_cases hp0 : p'.length = 0
        · have f9 : ((p'.length : Int) == 0) = true := by simp; exact List.eq_nil_of_length_eq_zero hp0
          generalize p'.length = z at *
          clear hp0
          go_wp2_with fail
          go_ret
          exact ⟨rfl, BF.out.trans (B7.out.mono BF.out.size)⟩
        · have f9 : ((p'.length : Int) == 0) = false := by
            have : ¬ ((p'.length : Int) = 0) := by omega
            simpa using this
          have O8 : Hid (Order m p') := Lib.hid (by
            rcases O7.out with h | h
            · exact absurd (by rw [h]; rfl) hp0
            · exact h)
          generalize hz : p'.length = z at *
          clear hp0 hz
          go_wp2_with fail
          exact ⟨⟨t + 1, _, p', rfl, by omega, by go_num, I7.out, O8.out, B7.out⟩, by simp [intOf]; omega⟩

    obtain rfl : 120 = t := by omega
    go_wp2_with fail
    go_ret
    exact ⟨rfl, BF.out.trans (Bel.out.mono BF.out.size)⟩
  · have h0 : mm = 0 := hone (by omega)
    have e1 : decide (1 < m) = false := by simp; omega
    have e9 : ((m : Int) == 1) = true := by
      have : (m : Int) = 1 := by omega
      simpa using this
    have e0 : (mm != 0) = false := by simp [h0]
    clear h0
    go_wp2_with fail
    go_loopw [15, 16] (fun ov i wr => ∃ (t : Nat) (ov' : Value) (p : List Int), ov' = ov ∧ t ≤ 120 ∧ i = .int .i64 t ∧ Ints wr ov' p ∧ Order m p ∧ Below W1.heap.size W1 wr) (fun _ i _ => 120 - (intOf i).toNat)
    case atStart => exact ⟨0, _, ups m, rfl, Nat.zero_le _, rfl, (ups_ints _ m m1 m2), ups_order m1, Bel.out.trans ((Below.refl _ _).alloc Bel.out.size _)⟩
    clear Bel
    obtain ⟨t, ov, p, rfl, ht, rfl, ip, op, bel⟩ := hrel
    have Bel := Lib.hid bel
    have Ip := Lib.hid ip
    have Op := Lib.hid op
    clear bel ip op
    by_cases ht2 : t < 120
    case pos =>
      go_wp2_with fail
      refine (long19 v ov m (rowsM rows) far p wr HFar.out HB.out (RM.out.below Bel.out) RL.out Ip.out Op.out.len m1 (by omega) (fun k hk => Op.out.at hk)).mono ?_
      rintro e w5 ⟨rfl, bel5⟩
      have B5 := Lib.hid (Bel.out.trans (bel5.mono Bel.out.size))
      have I5 := Lib.hid (Ip.out.below bel5)
      clear bel5
      generalize longTo far p m = lp at *
      have e1 : decide (1 < m) = false := by simp; omega
      go_wp2_with fail
      refine (next21 ov m p _ I5.out Op.out.len m1 (by omega)).mono ?_
      rintro e w7 ⟨nv, p', rfl, ip7, bel7, hor⟩
      have B7 := Lib.hid (B5.out.trans (bel7.mono B5.out.size))
      obtain ⟨a7, c7, rfl, hl7⟩ := ints_form ip7
      have I7 := Lib.hid ip7
      have O7 : Hid (p' = [] ∨ Order m p') := Lib.hid (by
        rcases hor with h | ⟨h1, h2⟩
        · exact .inl h
        · exact .inr (Op.out.perm h1 (h2.trans Op.out.zero)))
      clear ip7 bel7 hor
      by_cases hp0 : p'.length = 0
      · have f9 : ((p'.length : Int) == 0) = true := by simp; exact List.eq_nil_of_length_eq_zero hp0
        generalize p'.length = z at *
        clear hp0
        go_wp2_with fail
        go_ret
        exact ⟨rfl, BF.out.trans (B7.out.mono BF.out.size)⟩
      · have f9 : ((p'.length : Int) == 0) = false := by
          have : ¬ ((p'.length : Int) = 0) := by omega
          simpa using this
        have O8 : Hid (Order m p') := Lib.hid (by
          rcases O7.out with h | h
          · exact absurd (by rw [h]; rfl) hp0
          · exact h)
        generalize hz : p'.length = z at *
        clear hp0 hz
        go_wp2_with fail
        exact ⟨⟨t + 1, _, p', rfl, by omega, by go_num, I7.out, O8.out, B7.out⟩, by simp [intOf]; omega⟩
    obtain rfl : 120 = t := by omega
    go_wp2_with fail
    go_ret
    exact ⟨rfl, BF.out.trans (Bel.out.mono BF.out.size)⟩
end Go.Proofs.Ytomcdnkafgmleaa
