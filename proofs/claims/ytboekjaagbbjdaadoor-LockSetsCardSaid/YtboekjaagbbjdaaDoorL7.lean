/- The law of the spread: some keys. -/
import Derived.Test.YtboekjaagbbjdaaDoorL6
import Derived.Deep.RegionHeld3
namespace Go.Proofs.YtboekjaagbbjdaaDoor
open Go.RowKit Go.Lib Go.Sort

theorem below_drewN {B : Nat} {a w : World} (h : Below B a w) (n : Nat) : Below B a (w.drewN n) := ⟨h.os, h.tape, h.output, h.size, h.block⟩

theorem Tab.drew {w : World} (h : Tab w) : Tab w.drew := h
theorem stripe8s (s : ByteArray) (n : Int) (w : World) (ht : Tab w) (h0 : 0 < w.heap.size) (hs : s.size ≤ 9223372036854775807) (h1 : 1 ≤ n) (h2 : n ≤ 64) : Calls Tryd.prog 8 #[.string s, .int .i64 n] w fun e w' => e = .returned (.int .i64 (strI n.toNat s)) ∧ Below w.heap.size w w' := stripe8 s n w ht h0 hs h1 h2
theorem any_next {α : Type} (p : α → Bool) (l : List α) (k : Nat) (h : k < l.length) (d : α) : (l.take (k + 1)).any p = ((l.take k).any p || p (l.getD k d)) := by
  rw [List.take_succ_eq_append_getElem h, List.any_append, List.getD_eq_getElem?_getD, List.getElem?_eq_getElem h]
  simp

set_option maxRecDepth 100000 in
set_option maxHeartbeats 2000000 in
theorem spread4_row (b off cap : Nat) (ks : List ByteArray) (n : Int) (w : World) (ht : Tab w) (h0 : 0 < w.heap.size) (hL : 0 < ks.length) (hm : ks.length * 16 ≤ 140737488355328) (hb : b < w.heap.size) (h1 : 1 ≤ n) (h2 : n ≤ 64)
    (hc : ∀ i, i < ks.length → w.cell? ⟨b, off + i, none⟩ = some (.string (ks.getD i ByteArray.empty)) ∧ (ks.getD i ByteArray.empty).size ≤ 9223372036854775807) :
    Calls Tryd.prog 4 #[.slice (some ⟨b, off, none⟩) ks.length cap, .int .i64 n] w fun e w' => e = .returned (.bool true) ∧ Below w.heap.size w w' := by
  have hset := set5_row b off cap ks n w ht h0 hm hb h1 h2 hc
  have Hs := Lib.hid hset
  have Hc := Lib.hid hc
  have Ht := Lib.hid ht
  have hmemset := setOf_mem (ks.map (strI n.toNat))
  have hsorted := setOf_sorted (ks.map (strI n.toNat))
  have hlen := setOf_len (ks.map (strI n.toNat))
  rw [List.length_map] at hlen
  have hpos : 0 < (setOf (ks.map (strI n.toNat))).length := by
    have : strI n.toNat ks[0] ∈ setOf (ks.map (strI n.toNat)) := (hmemset _).2 (List.mem_map.2 ⟨ks[0], List.getElem_mem _, rfl⟩)
    exact List.length_pos_of_mem this
  clear hset hc ht
  have hb2 : (decide (n < 1) || decide (64 < n)) = false := by simp; omega
  obtain ⟨xs, hxs⟩ : ∃ xs, setOf (ks.map (strI n.toNat)) = xs := ⟨_, rfl⟩
  have Hs := Lib.hid Hs.out
  rw [hxs] at Hs hmemset hsorted hlen hpos
  have hrange : ∀ i, i < xs.length → 0 ≤ xs.getD i 0 ∧ xs.getD i 0 < n := fun i hi => by
    have hm : xs.getD i 0 ∈ xs := by rw [List.getD_eq_getElem?_getD, List.getElem?_eq_getElem hi]; exact List.getElem_mem _
    obtain ⟨k, _, e⟩ := List.mem_map.1 ((hmemset _).1 hm)
    have := strI_range n.toNat (by omega) k
    rw [e] at this
    omega
  have hrise : ∀ i, 0 < i → i < xs.length → xs.getD (i - 1) 0 < xs.getD i 0 := fun i h0 hi => by
    have := List.pairwise_iff_getElem.1 hsorted (i - 1) i (by omega) hi (by omega)
    rw [List.getD_eq_getElem?_getD, List.getD_eq_getElem?_getD, List.getElem?_eq_getElem (by omega), List.getElem?_eq_getElem hi]
    exact this
  have hfrom : ∀ i, i < xs.length → (ks.any fun s => strI n.toNat s == xs.getD i 0) = true := fun i hi => by
    have hm : xs.getD i 0 ∈ xs := by rw [List.getD_eq_getElem?_getD, List.getElem?_eq_getElem hi]; exact List.getElem_mem _
    obtain ⟨k, hk, e⟩ := List.mem_map.1 ((hmemset _).1 hm)
    exact List.any_eq_true.2 ⟨k, hk, by simp [e]⟩
  have hto : ∀ k, k < ks.length → (xs.any fun x => x == strI n.toNat (ks.getD k ByteArray.empty)) = true := fun k hk => by
    have : strI n.toNat (ks.getD k ByteArray.empty) ∈ xs := (hmemset _).2 (List.mem_map.2 ⟨_, by rw [List.getD_eq_getElem?_getD, List.getElem?_eq_getElem hk]; exact List.getElem_mem _, rfl⟩)
    exact List.any_eq_true.2 ⟨_, this, by simp⟩
  have HR := Lib.hid hrange
  have HI := Lib.hid hrise
  have HF := Lib.hid hfrom
  have HT := Lib.hid hto
  clear hmemset hsorted hxs hrange hrise hfrom hto
  generalize hLn : ks.length = L at *
  have HL := Lib.hid hLn
  clear hLn
  go_enter Tryd.func4, Tryd.ntmps4
  go_wp2_with fail
  refine Hs.out.mono ?_
  rintro e w1 ⟨v1, rfl, own1, bel1⟩
  have Bel1 := Lib.hid bel1
  obtain ⟨a1, c1, rfl, hx⟩ | ⟨g, o2, c2, hm0, hm1, rfl, hg, hx⟩ := ints_own own1 (by omega)
  · subst hx; simp at hpos
  have HX := Lib.hid hx
  have KC : Hid (∀ i, i < L → w1.cell? ⟨b, off + i, none⟩ = some (.string (ks.getD i ByteArray.empty)) ∧ (ks.getD i ByteArray.empty).size ≤ 9223372036854775807) := Lib.hid fun i hi => by rw [bel1.cell (p := ⟨b, off + i, none⟩) hb]; exact Hc.out i hi
  have T1 := Lib.hid (Ht.out.below h0 bel1)
  have hb1 : b < w1.heap.size := Nat.lt_of_lt_of_le hb bel1.size
  have h01 : 0 < w1.heap.size := Nat.lt_of_lt_of_le h0 bel1.size
  clear hx own1 bel1 Hs Hc Ht
  generalize hmn : xs.length = m at *
  have HM := Lib.hid hmn
  clear hmn
  go_wp2_with fail
  go_loopw [6] (fun i wr => ∃ k : Nat, k ≤ m ∧ i = .int .i64 k ∧ Below w1.heap.size w1 wr) (fun i _ => m - (intOf i).toNat)
  case atStart => exact ⟨0, Nat.zero_le _, rfl, Below.refl _ _⟩
  obtain ⟨k, hk, rfl, bel⟩ := hrel
  have Bel := Lib.hid bel
  clear bel
  by_cases hkm : k < m
  case pos =>
    have cx := HX.out k hkm
    have cx : wr.cell? ⟨g, o2 + k, none⟩ = some (.int .i64 (xs.getD k 0)) := by rw [Bel.out.cell (p := ⟨g, o2 + k, none⟩) hg]; exact cx
    have rx := HR.out k hkm
    obtain ⟨x, hx⟩ : ∃ x, xs.getD k 0 = x := ⟨_, rfl⟩
    rw [hx] at cx rx
    have Hx := Lib.hid hx
    clear hx
    have l1 : (k : Int) < (m : Int) := by omega
    have l2 : (0 : Int) ≤ (k : Int) := by omega
    have g1 : decide (x < 0) = false := by simp; omega
    have g2 : decide (n ≤ x) = false := by simp; omega
    by_cases hk0 : k = 0
    · have g3 : decide (0 < k) = false := by simp; omega
      clear hk0
      go_wp2_with fail
      go_quiet (fail)
      go_wp2_with fail
      have Bel2 := Lib.hid (below_drewN Bel.out nq)
      clear Bel cx g1 g2 g3 l1 l2
      generalize wr.drewN nq = wr2 at *
      go_loopw [7, 8] (fun vi vk wr3 => ∃ j : Nat, j ≤ L ∧ vk = .int .i64 j ∧ vi = .bool ((ks.take j).any fun s => strI n.toNat s == x) ∧ Below w1.heap.size w1 wr3) (fun _ vk _ => L - (intOf vk).toNat)
      case atStart => exact ⟨0, Nat.zero_le _, rfl, rfl, Bel2.out⟩
      obtain ⟨j, hj, rfl, rfl, bel3⟩ := hrel
      have Bel3 := Lib.hid bel3
      clear bel3
      by_cases hjL : j < L
      case pos =>
        obtain ⟨ck, hs⟩ := KC.out j hjL
        have ck : wr.cell? ⟨b, off + j, none⟩ = some (.string (ks.getD j ByteArray.empty)) := by rw [Bel3.out.cell (p := ⟨b, off + j, none⟩) hb1]; exact ck
        have cx : wr.cell? ⟨g, o2 + k, none⟩ = some (.int .i64 x) := by rw [Bel3.out.cell (p := ⟨g, o2 + k, none⟩) hg, ← Hx.out]; exact HX.out k hkm
        have An := Lib.hid (any_next (fun s => strI n.toNat s == x) ks j (by have := HL.out; omega) ByteArray.empty)
        obtain ⟨s, hss⟩ : ∃ s, ks.getD j ByteArray.empty = s := ⟨_, rfl⟩
        rw [hss] at ck hs An
        clear hss
        have l1 : (k : Int) < (m : Int) := by omega
        have l2 : (0 : Int) ≤ (k : Int) := by omega
        have l3 : (j : Int) < (L : Int) := by omega
        have l4 : (0 : Int) ≤ (j : Int) := by omega
        have T3 := Lib.hid (T1.out.below h01 Bel3.out)
        have T3d := Lib.hid T3.out.drew
        have Z3d : Hid (0 < wr.drew.heap.size) := Lib.hid (Nat.lt_of_lt_of_le h01 Bel3.out.size)
        have B3 : Hid (b < wr.drew.heap.size) := Lib.hid (Nat.lt_of_lt_of_le hb1 Bel3.out.size)
        have G3 : Hid (g < wr.drew.heap.size) := Lib.hid (Nat.lt_of_lt_of_le hg Bel3.out.size)
        rcases Bool.eq_false_or_eq_true ((ks.take j).any fun s => strI n.toNat s == x) with ha | ha
        · rw [ha] at An ⊢
          clear ha
          go_wp2_with fail
          go_quiet (fail)
          go_wp2_with fail
          exact ⟨⟨j + 1, by omega, by go_num, by rw [An.out]; rfl, below_drewN Bel3.out _⟩, by simp [intOf]; omega⟩
        · rw [ha] at An ⊢
          clear ha
          go_wp2_with fail
          go_region_held3 (fun w' => w'.cell? ⟨b, off + j, none⟩ = some (.string s) ∧ w'.cell? ⟨g, o2 + k, none⟩ = some (.int .i64 x)) (first | go_keep | exact ⟨ck4, cx4⟩) ((go_at_call 8; refine (stripe8s s n wr.drew T3d.out Z3d.out hs h1 h2).mono ?_; rintro e w4 ⟨rfl, bel4⟩; have B4 := Lib.hid bel4; have cx4 : w4.cell? ⟨g, o2 + k, none⟩ = some (.int .i64 x) := (bel4.cell (p := ⟨g, o2 + k, none⟩) G3.out).trans cx; have ck4 : w4.cell? ⟨b, off + j, none⟩ = some (.string s) := (bel4.cell (p := ⟨b, off + j, none⟩) B3.out).trans ck))
          go_wp2_with fail
          exact ⟨⟨j + 1, by omega, by go_num, by rw [An.out, Bool.false_or], Bel3.out.trans (((Below.refl _ _).drew).trans (B4.out.mono Bel3.out.size))⟩, by simp [intOf]; omega⟩
      obtain rfl : L = j := by omega
      have ha : ((ks.take L).any fun s => strI n.toNat s == x) = true := by
        rw [List.take_of_length_le (by have := HL.out; omega), ← Hx.out]
        exact HF.out k hkm
      rw [ha]
      clear ha
      go_wp2_with fail
      exact ⟨⟨k + 1, by omega, by go_num, Bel3.out⟩, by simp [intOf]; omega⟩
    · have g3 : decide (0 < k) = true := by simp; omega
      have cp : wr.cell? ⟨g, o2 + (k - 1), none⟩ = some (.int .i64 (xs.getD (k - 1) 0)) := by rw [Bel.out.cell (p := ⟨g, o2 + (k - 1), none⟩) hg]; exact HX.out (k - 1) (by omega)
      have rp := HI.out k (by omega) hkm
      rw [Hx.out] at rp
      obtain ⟨y, hy⟩ : ∃ y, xs.getD (k - 1) 0 = y := ⟨_, rfl⟩
      rw [hy] at cp rp
      have g4 : decide (x ≤ y) = false := by simp; omega
      have g5 : ((k : Int) - 1).toNat = k - 1 := by omega
      have l3 : (k : Int) - 1 < (m : Int) := by omega
      have l4 : (0 : Int) ≤ (k : Int) - 1 := by omega
      have g6 : IntKind.i64.wrap ((k : Int) - 1) = (k : Int) - 1 := IntWalk.i64_in _ (by omega)
      clear hy
      go_wp2_with fail
      go_quiet (fail)
      go_wp2_with fail
      have Bel2 := Lib.hid (below_drewN Bel.out nq)
      clear Bel cx cp rp g1 g2 g3 g4 g5 g6 l1 l2 l3 l4
      generalize wr.drewN nq = wr2 at *
      go_loopw [7, 8] (fun vi vk wr3 => ∃ j : Nat, j ≤ L ∧ vk = .int .i64 j ∧ vi = .bool ((ks.take j).any fun s => strI n.toNat s == x) ∧ Below w1.heap.size w1 wr3) (fun _ vk _ => L - (intOf vk).toNat)
      case atStart => exact ⟨0, Nat.zero_le _, rfl, rfl, Bel2.out⟩
      obtain ⟨j, hj, rfl, rfl, bel3⟩ := hrel
      have Bel3 := Lib.hid bel3
      clear bel3
      by_cases hjL : j < L
      case pos =>
        obtain ⟨ck, hs⟩ := KC.out j hjL
        have ck : wr.cell? ⟨b, off + j, none⟩ = some (.string (ks.getD j ByteArray.empty)) := by rw [Bel3.out.cell (p := ⟨b, off + j, none⟩) hb1]; exact ck
        have cx : wr.cell? ⟨g, o2 + k, none⟩ = some (.int .i64 x) := by rw [Bel3.out.cell (p := ⟨g, o2 + k, none⟩) hg, ← Hx.out]; exact HX.out k hkm
        have An := Lib.hid (any_next (fun s => strI n.toNat s == x) ks j (by have := HL.out; omega) ByteArray.empty)
        obtain ⟨s, hss⟩ : ∃ s, ks.getD j ByteArray.empty = s := ⟨_, rfl⟩
        rw [hss] at ck hs An
        clear hss
        have l1 : (k : Int) < (m : Int) := by omega
        have l2 : (0 : Int) ≤ (k : Int) := by omega
        have l3 : (j : Int) < (L : Int) := by omega
        have l4 : (0 : Int) ≤ (j : Int) := by omega
        have T3 := Lib.hid (T1.out.below h01 Bel3.out)
        have T3d := Lib.hid T3.out.drew
        have Z3d : Hid (0 < wr.drew.heap.size) := Lib.hid (Nat.lt_of_lt_of_le h01 Bel3.out.size)
        have B3 : Hid (b < wr.drew.heap.size) := Lib.hid (Nat.lt_of_lt_of_le hb1 Bel3.out.size)
        have G3 : Hid (g < wr.drew.heap.size) := Lib.hid (Nat.lt_of_lt_of_le hg Bel3.out.size)
        rcases Bool.eq_false_or_eq_true ((ks.take j).any fun s => strI n.toNat s == x) with ha | ha
        · rw [ha] at An ⊢
          clear ha
          go_wp2_with fail
          go_quiet (fail)
          go_wp2_with fail
          exact ⟨⟨j + 1, by omega, by go_num, by rw [An.out]; rfl, below_drewN Bel3.out _⟩, by simp [intOf]; omega⟩
        · rw [ha] at An ⊢
          clear ha
          go_wp2_with fail
          go_region_held3 (fun w' => w'.cell? ⟨b, off + j, none⟩ = some (.string s) ∧ w'.cell? ⟨g, o2 + k, none⟩ = some (.int .i64 x)) (first | go_keep | exact ⟨ck4, cx4⟩) ((go_at_call 8; refine (stripe8s s n wr.drew T3d.out Z3d.out hs h1 h2).mono ?_; rintro e w4 ⟨rfl, bel4⟩; have B4 := Lib.hid bel4; have cx4 : w4.cell? ⟨g, o2 + k, none⟩ = some (.int .i64 x) := (bel4.cell (p := ⟨g, o2 + k, none⟩) G3.out).trans cx; have ck4 : w4.cell? ⟨b, off + j, none⟩ = some (.string s) := (bel4.cell (p := ⟨b, off + j, none⟩) B3.out).trans ck))
          go_wp2_with fail
          exact ⟨⟨j + 1, by omega, by go_num, by rw [An.out, Bool.false_or], Bel3.out.trans (((Below.refl _ _).drew).trans (B4.out.mono Bel3.out.size))⟩, by simp [intOf]; omega⟩
      obtain rfl : L = j := by omega
      have ha : ((ks.take L).any fun s => strI n.toNat s == x) = true := by
        rw [List.take_of_length_le (by have := HL.out; omega), ← Hx.out]
        exact HF.out k hkm
      rw [ha]
      clear ha
      go_wp2_with fail
      exact ⟨⟨k + 1, by omega, by go_num, Bel3.out⟩, by simp [intOf]; omega⟩
  obtain rfl : m = k := by omega
  go_wp2_with fail
  go_loopw [9] (fun i wr => ∃ k : Nat, k ≤ L ∧ i = .int .i64 k ∧ Below w1.heap.size w1 wr) (fun i _ => L - (intOf i).toNat)
  case atStart => exact ⟨0, Nat.zero_le _, rfl, Bel.out⟩
  clear Bel
  obtain ⟨k, hk, rfl, bel⟩ := hrel
  have Bel := Lib.hid bel
  clear bel
  by_cases hkL : k < L
  case pos =>
    obtain ⟨ck, hs⟩ := KC.out k hkL
    have ck : wr.cell? ⟨b, off + k, none⟩ = some (.string (ks.getD k ByteArray.empty)) := by rw [Bel.out.cell (p := ⟨b, off + k, none⟩) hb1]; exact ck
    have Ht := Lib.hid (HT.out k hkL)
    obtain ⟨s, hss⟩ : ∃ s, ks.getD k ByteArray.empty = s := ⟨_, rfl⟩
    rw [hss] at ck hs Ht
    clear hss
    have T3 := Lib.hid (T1.out.below h01 Bel.out)
    have Z3 : Hid (0 < wr.heap.size) := Lib.hid (Nat.lt_of_lt_of_le h01 Bel.out.size)
    go_wp2_with fail
    refine (stripe8s s n wr T3.out Z3.out hs h1 h2).mono ?_
    rintro e w4 ⟨rfl, bel4⟩
    have B4 := Lib.hid (Bel.out.trans (bel4.mono Bel.out.size))
    clear bel4 ck hs T3 Z3 Bel
    generalize strI n.toNat s = q at *
    go_wp2_with fail
    go_loopw [11, 12] (fun vi vk wr3 => ∃ j : Nat, j ≤ m ∧ vk = .int .i64 j ∧ vi = .bool ((xs.take j).any fun x => x == q) ∧ Below w1.heap.size w1 wr3) (fun _ vk _ => m - (intOf vk).toNat)
    case atStart => exact ⟨0, Nat.zero_le _, rfl, rfl, B4.out⟩
    obtain ⟨j, hj, rfl, rfl, bel3⟩ := hrel
    have Bel3 := Lib.hid bel3
    clear bel3
    by_cases hjm : j < m
    case pos =>
      have cx := HX.out j hjm
      have cx : wr.cell? ⟨g, o2 + j, none⟩ = some (.int .i64 (xs.getD j 0)) := by rw [Bel3.out.cell (p := ⟨g, o2 + j, none⟩) hg]; exact cx
      have An := Lib.hid (any_next (fun x => x == q) xs j (by have := HM.out; omega) 0)
      obtain ⟨x, hx⟩ : ∃ x, xs.getD j 0 = x := ⟨_, rfl⟩
      rw [hx] at cx An
      clear hx
      have l1 : (j : Int) < (m : Int) := by omega
      have l2 : (0 : Int) ≤ (j : Int) := by omega
      rcases Bool.eq_false_or_eq_true ((xs.take j).any fun x => x == q) with ha | ha
      · rw [ha] at An ⊢
        clear ha
        go_wp2_with fail
        exact ⟨⟨j + 1, by omega, by go_num, by rw [An.out]; rfl, Bel3.out⟩, by simp [intOf]; omega⟩
      · rw [ha] at An ⊢
        clear ha
        go_wp2_with fail
        exact ⟨⟨j + 1, by omega, by go_num, by rw [An.out, Bool.false_or], Bel3.out⟩, by simp [intOf]; omega⟩
    obtain rfl : m = j := by omega
    have ha : ((xs.take m).any fun x => x == q) = true := by
      rw [List.take_of_length_le (by have := HM.out; omega)]
      exact Ht.out
    rw [ha]
    clear ha
    go_wp2_with fail
    exact ⟨⟨k + 1, by omega, by go_num, Bel3.out⟩, by simp [intOf]; omega⟩
  obtain rfl : L = k := by omega
  have T3 := Lib.hid (T1.out.below h01 Bel.out)
  have Z3 : Hid (0 < wr.heap.size) := Lib.hid (Nat.lt_of_lt_of_le h01 Bel.out.size)
  have f1 : ((L : Int) == 0) = false := by simp; omega
  have f2 : ((m : Int) == 0) = false := by simp; omega
  go_wp2_with fail
  refine (stripe8s ⟨#[97]⟩ 1 wr T3.out Z3.out (by decide) (by decide) (by decide)).mono ?_
  rintro e w4 ⟨rfl, bel4⟩
  have e1 : strI (1 : Int).toNat ⟨#[97]⟩ = 0 := strI_one _
  rw [e1]
  have B4 := Lib.hid (Bel1.out.trans ((Bel.out.trans (bel4.mono Bel.out.size)).mono Bel1.out.size))
  clear bel4 e1 T3 Z3 Bel Bel1
  go_wp2_with fail
  go_ret
  exact ⟨rfl, B4.out⟩
end Go.Proofs.YtboekjaagbbjdaaDoor
