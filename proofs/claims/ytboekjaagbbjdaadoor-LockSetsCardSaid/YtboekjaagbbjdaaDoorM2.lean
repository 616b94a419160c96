/- The document's set of stripes; two lists of numbers compared. -/
import Derived.Test.YtboekjaagbbjdaaDoorM1
namespace Go.Proofs.YtboekjaagbbjdaaDoor
open Go.RowKit Go.Lib Go.Sort

def refTo (ks : List ByteArray) (n : Nat) : Nat → List Int
  | 0 => []
  | k + 1 => refTo ks n k ++ (if (ks.any fun q => strI n q == (k : Int)) = true then [(k : Int)] else [])
theorem refTo_len (ks : List ByteArray) (n : Nat) : ∀ k, (refTo ks n k).length ≤ k
  | 0 => Nat.le_refl _
  | k + 1 => by
    have := refTo_len ks n k
    unfold refTo
    rw [List.length_append]
    split
    · rw [List.length_singleton]; omega
    · rw [List.length_nil]; omega
theorem refTo_mem (ks : List ByteArray) (n : Nat) (x : Int) : ∀ k, x ∈ refTo ks n k ↔ 0 ≤ x ∧ x < k ∧ ∃ q ∈ ks, strI n q = x
  | 0 => by simp [refTo]; omega
  | k + 1 => by
    have ih := refTo_mem ks n x k
    unfold refTo
    rw [List.mem_append, ih]
    constructor
    · rintro (⟨h1, h2, h3⟩ | h)
      · exact ⟨h1, by omega, h3⟩
      · split at h
        · rename_i ha
          obtain ⟨q, hq, e⟩ := List.any_eq_true.1 ha
          have hx : x = (k : Int) := by simpa using h
          exact ⟨by omega, by omega, q, hq, by rw [hx]; simpa using e⟩
        · simp at h
    · rintro ⟨h1, h2, q, hq, e⟩
      by_cases hx : x = (k : Int)
      · right
        have ha : (ks.any fun q => strI n q == (k : Int)) = true := List.any_eq_true.2 ⟨q, hq, by rw [e, hx]; simp⟩
        rw [if_pos ha, hx]; simp
      · exact .inl ⟨h1, by omega, q, hq, e⟩
theorem refTo_sorted (ks : List ByteArray) (n : Nat) : ∀ k, (refTo ks n k).Pairwise (· < ·)
  | 0 => by simp [refTo]
  | k + 1 => by
    unfold refTo
    rw [List.pairwise_append]
    refine ⟨refTo_sorted ks n k, by split <;> simp, ?_⟩
    intro a ha b hb
    have h1 := ((refTo_mem ks n a k).1 ha).2.1
    split at hb
    · have : b = (k : Int) := by simpa using hb
      omega
    · simp at hb
theorem set_ref (ks : List ByteArray) (n : Nat) (h : 0 < n) : setOf (ks.map (strI n)) = refTo ks n n := by
  apply rising_eq (setOf_sorted _) (refTo_sorted ks n n)
  intro x
  rw [setOf_mem, refTo_mem]
  constructor
  · intro hm
    obtain ⟨q, hq, e⟩ := List.mem_map.1 hm
    have := strI_range n h q
    exact ⟨by omega, by omega, q, hq, e⟩
  · rintro ⟨_, _, q, hq, e⟩
    exact List.mem_map.2 ⟨q, hq, e⟩

set_option maxHeartbeats 4000000 in
theorem ref6_row (b off cap : Nat) (ks : List ByteArray) (m : Nat) (w : World) (hL : 0 < ks.length) (hm : ks.length * 16 ≤ 140737488355328) (hb : b < w.heap.size) (h1 : 1 ≤ m) (h2 : m ≤ 64)
    (hc : ∀ i, i < ks.length → w.cell? ⟨b, off + i, none⟩ = some (.string (ks.getD i ByteArray.empty)) ∧ (ks.getD i ByteArray.empty).size ≤ 9223372036854775807) :
    Calls Tryd.prog 6 #[.slice (some ⟨b, off, none⟩) ks.length cap, .int .i64 m] w fun e w' => ∃ v', e = .returned v' ∧ w'.ownsRow w.heap.size 3 1 v' (refTo ks m m).length ((refTo ks m m).map (Value.int .i64)) ∧ Below w.heap.size w w' := by
  have Hc := Lib.hid hc
  clear hc
  have hb2 : (decide ((m : Int) < 1) || decide (64 < (m : Int))) = false := by simp; omega
  have i1 : (1 : Int) ≤ (m : Int) := by omega
  have i2 : (m : Int) ≤ 64 := by omega
  generalize hLn : ks.length = L at *
  have HL := Lib.hid hLn
  clear hLn
  have own0 := Lib.hid (World.ownsRow_nil w w.heap.size 3 1)
  go_enter Tryd.func6, Tryd.ntmps6
  go_wp2_with fail
  go_loopw [5, 6] (fun v i wr => ∃ (k : Nat) (v' : Value), k ≤ m ∧ i = .int .i64 k ∧ v' = v ∧ Below w.heap.size w wr ∧ wr.ownsRow w.heap.size 3 1 v' (refTo ks m k).length ((refTo ks m k).map (Value.int .i64))) (fun _ i _ => m - (intOf i).toNat)
  case atStart => exact ⟨0, _, Nat.zero_le _, rfl, rfl, Below.refl _ _, own0.out⟩
  obtain ⟨k, v, hk, rfl, rfl, bel, own⟩ := hrel
  have Bel := Lib.hid bel
  have Own := Lib.hid own
  clear bel own
  by_cases hkm : k < m
  case pos =>
    go_wp2_with fail
    obtain ⟨w9, rfl⟩ : ∃ w9, w9 = wr := ⟨_, rfl⟩
    go_loopw [7, 8] (fun vi vk wr3 => ∃ j : Nat, j ≤ L ∧ vk = .int .i64 j ∧ vi = .bool ((ks.take j).any fun s => strI m s == (k : Int)) ∧ Below w9.heap.size w9 wr3) (fun _ vk _ => L - (intOf vk).toNat)
    case atStart => exact ⟨0, Nat.zero_le _, rfl, rfl, Below.refl _ _⟩
    obtain ⟨j, hj, rfl, rfl, bel3⟩ := hrel
    have Bel3 := Lib.hid bel3
    clear bel3
    by_cases hjL : j < L
    case pos =>
      obtain ⟨ck, hs⟩ := Hc.out j hjL
      have ck : wr.cell? ⟨b, off + j, none⟩ = some (.string (ks.getD j ByteArray.empty)) := by rw [Bel3.out.cell (p := ⟨b, off + j, none⟩) (Nat.lt_of_lt_of_le hb Bel.out.size), Bel.out.cell (p := ⟨b, off + j, none⟩) hb]; exact ck
      have An := Lib.hid (any_next (fun s => strI m s == (k : Int)) ks j (by have := HL.out; omega) ByteArray.empty)
      obtain ⟨s, hss⟩ : ∃ s, ks.getD j ByteArray.empty = s := ⟨_, rfl⟩
      rw [hss] at ck hs An
      clear hss
      go_wp2_with fail
      refine (stripe11 s (m : Int) _ hs i1 i2).mono ?_
      rintro e w4 ⟨rfl, bel4⟩
      rw [Int.toNat_natCast]
      have B4 := Lib.hid (Bel3.out.trans (bel4.mono Bel3.out.size))
      generalize strI m s = q at *
      clear bel4 ck hs
      rcases Bool.eq_false_or_eq_true ((ks.take j).any fun s => strI m s == (k : Int)) with ha | ha
      · rw [ha] at An ⊢
        clear ha
        go_wp2_with fail
        exact ⟨⟨j + 1, by omega, by go_num, by rw [An.out]; rfl, B4.out⟩, by simp [intOf]; omega⟩
      · rw [ha] at An ⊢
        clear ha
        go_wp2_with fail
        exact ⟨⟨j + 1, by omega, by go_num, by rw [An.out, Bool.false_or], B4.out⟩, by simp [intOf]; omega⟩
    obtain rfl : L = j := by omega
    have HT := Lib.hid (show ks.take L = ks from List.take_of_length_le (by have := HL.out; omega))
    rw [HT.out]
    have B5 := Lib.hid (Bel.out.trans (Bel3.out.mono Bel.out.size))
    have Own5 := Lib.hid (own_below Own.out Bel3.out)
    have Sz := Lib.hid B5.out.size
    have hl := refTo_len ks m k
    obtain ⟨ln, hln⟩ : ∃ ln, (refTo ks m k).length = ln := ⟨_, rfl⟩
    have own6 := Own5.out
    rw [hln] at own6 hl
    have Own6 := Lib.hid own6
    have Hln := Lib.hid hln
    have I1 := Lib.hid (show ln + 1 ≤ maxLen by unfold maxLen; omega)
    have I2 := Lib.hid (show (ln + 1) * 8 ≤ 140737488355328 by omega)
    clear own6 hln hl Bel Bel3 Own Own5
    rcases Bool.eq_false_or_eq_true (ks.any fun s => strI m s == (k : Int)) with ha | ha
    · have Sn := Lib.hid (show refTo ks m (k + 1) = refTo ks m k ++ [(k : Int)] by conv => lhs; unfold refTo; rw [if_pos ha])
      rw [ha]
      clear ha
      go_wp2_with (at_builtin; refine wpList_app1 _ rfl _ _ 23 rfl w.heap.size 3 (.int .i64 0) 8 Tryd.underlying23 info3 rfl _ _ _ rfl (Own6.out.alloc _) wr.heap.size (.int .i64 k) rfl (cell1_new _ _ _) rfl I1.out I2.out (Nat.le_trans Sz.out (size_alloc_le _ _)) ?_; intro v' w2 hown' hbel)
      exact ⟨⟨k + 1, _, by omega, by go_num, rfl, B5.out.trans (below_alloc1 Sz.out hbel), by rw [Sn.out, List.length_append, Hln.out, List.map_append]; exact hown'⟩, by simp [intOf]; omega⟩
    · have Sn := Lib.hid (show refTo ks m (k + 1) = refTo ks m k by conv => lhs; unfold refTo; rw [if_neg (by rw [ha]; simp), List.append_nil])
      rw [ha]
      clear ha
      go_wp2_with fail
      exact ⟨⟨k + 1, _, by omega, by go_num, rfl, B5.out, by rw [Sn.out, Hln.out]; exact Own6.out⟩, by simp [intOf]; omega⟩
  obtain rfl : m = k := by omega
  go_wp2_with fail
  go_ret
  exact ⟨_, rfl, Own.out, Bel.out⟩
end Go.Proofs.YtboekjaagbbjdaaDoor
