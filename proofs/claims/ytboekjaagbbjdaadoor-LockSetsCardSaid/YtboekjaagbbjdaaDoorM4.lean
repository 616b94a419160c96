/- The law of the sets, walked. -/
import Derived.Test.YtboekjaagbbjdaaDoorM3
namespace Go.Proofs.YtboekjaagbbjdaaDoor
open Go.RowKit Go.Lib Go.Sort

theorem Texts.form {w : World} {v : Value} {ks : List ByteArray} (h : Texts w v ks) : ∃ a cap, v = .slice a ks.length cap ∧ ks.length * 16 ≤ 140737488355328 := by
  rcases h with ⟨a, cap, rfl, rfl⟩ | ⟨b, off, cap, _, hm, rfl, _⟩
  · exact ⟨_, _, rfl, by simp⟩
  · exact ⟨_, _, rfl, hm⟩
theorem Texts.row {w : World} {a : Option Addr} {L cap : Nat} {ks : List ByteArray} (h : Texts w (.slice a L cap) ks) {i : Nat} (hi : i < ks.length) : ∃ b off, a = some ⟨b, off, none⟩ ∧ w.cell? ⟨b, off + i, none⟩ = some (.string (ks.getD i ByteArray.empty)) := by
  rcases h with ⟨a', cap', e, rfl⟩ | ⟨b, off, cap', _, hm, e, _, hc⟩
  · simp at hi
  · simp only [Value.slice.injEq] at e
    exact ⟨b, off, e.1, (hc i hi).1⟩
def mark : ByteArray := ⟨#[109, 97, 114, 107]⟩
def two : ByteArray := ⟨#[116, 119, 111]⟩

set_option maxRecDepth 100000 in
set_option maxHeartbeats 2000000 in
theorem sets3 (v : Value) (ks : List ByteArray) (n : Int) (w : World) (ht : Tab w) (h0 : 0 < w.heap.size) (hv : Texts w v ks) (hs : Src w v (ks.map Value.string)) (hr : ks.length * 16 ≤ 140737488351232) :
    Calls Tryd.prog 3 #[v, .int .i64 n] w fun e w' => e = .returned (.bool true) ∧ Below w.heap.size w w' := by
  obtain ⟨a, cap, rfl, hm⟩ := hv.form
  have HV := Lib.hid hv
  have HS := Lib.hid hs
  have HT := Lib.hid ht
  have own0 := Lib.hid (World.ownsRow_nil w w.heap.size 9 1)
  have A1 := Lib.hid (show ∀ u ∈ ks.map Value.string, u.oneCell' = true from fun u hu => by obtain ⟨k, _, rfl⟩ := List.mem_map.1 hu; rfl)
  have A2 := Lib.hid (show 0 + (ks.map Value.string).length ≤ maxLen by rw [List.length_map]; unfold maxLen; omega)
  have A3 := Lib.hid (show (0 + (ks.map Value.string).length) * 16 ≤ 140737488355328 by rw [List.length_map]; omega)
  have KC := Lib.hid (show ∀ i, i < ks.length → (ks.getD i ByteArray.empty).size ≤ 9223372036854775807 from fun i hi => by
    rcases hv with ⟨_, _, _, rfl⟩ | ⟨_, _, _, _, _, _, _, hc⟩
    · simp at hi
    · exact (hc i hi).2)
  generalize hLn : ks.length = L at *
  have HL := Lib.hid hLn
  clear hv hs ht hLn
  have hlm : (ks.map Value.string).length = L := by rw [List.length_map]; exact HL.out
  have HLM := Lib.hid hlm
  clear hlm
  have B1 := Lib.hid (show ∀ u ∈ [Value.string mark, Value.string two], u.oneCell' = true from fun u hu => by simp at hu; rcases hu with rfl | rfl <;> rfl)
  have B2 := Lib.hid (show L + [Value.string mark, Value.string two].length ≤ maxLen by unfold maxLen; simp; omega)
  have B3 := Lib.hid (show (L + [Value.string mark, Value.string two].length) * 16 ≤ 140737488355328 by simp; omega)
  have tok1 : True := trivial
  go_enter Tryd.func3, Tryd.ntmps3
  go_wp2_with (first | (at_builtin; have _t := tok1; refine wpList_appSrc _ rfl _ _ 22 rfl w.heap.size 9 (.string ByteArray.empty) 16 Tryd.underlying22 info9 rfl _ _ _ rfl own0.out _ _ rfl HS.out A1.out A2.out A3.out (Nat.le_refl _) ?_; intro v1 w1 own1 bel1; clear tok1; rw [Nat.zero_add, HLM.out, List.nil_append] at own1; have Own1 := Lib.hid own1; have Z1 := Lib.hid bel1.size; have Bel1 := Lib.hid bel1; clear own1 bel1) | (at_builtin; go_loud (refine wpList_appSrc _ rfl _ _ 22 rfl w.heap.size 9 (.string ByteArray.empty) 16 Tryd.underlying22 info9 rfl _ _ _ rfl (Own1.out.alloc _) _ [Value.string mark, Value.string two] rfl (src_two w1 (.string mark) (.string two) 9) B1.out B2.out B3.out (Nat.le_trans Z1.out (size_alloc_le _ _)) ?_); intro v2 w2 own3 bel2; have Bel2 := Lib.hid (Bel1.out.trans (below_alloc1 Z1.out bel2)); clear bel2; obtain ⟨g, c2, rfl, hg1, hg2, hg3, hg4, hg5⟩ := own_room own3 (Nat.succ_pos _); have HG := Lib.hid hg5; clear own3 hg5))
  have hcell : ∀ i, i < L → w2.cell? ⟨g, i, none⟩ = some (.string (ks.getD i ByteArray.empty)) := fun i hi => HG.out i _ (by
    have hk : i < ks.length := by rw [HL.out]; exact hi
    rw [List.getElem?_append_left (by simp; exact hk), List.getElem?_map, List.getD_eq_getElem?_getD, List.getElem?_eq_getElem hk]; rfl)
  have c0 : w2.cell? ⟨g, L, none⟩ = some (.string ⟨#[109, 97, 114, 107]⟩) := HG.out L _ (by
    rw [List.getElem?_append_right (by simp [HL.out])]; simp [HL.out, mark])
  have c1 : w2.cell? ⟨g, L + 1, none⟩ = some (.string ⟨#[116, 119, 111]⟩) := HG.out (L + 1) _ (by
    rw [List.getElem?_append_right (by simp [HL.out])]; simp [HL.out, two])
  have TX : Texts w2 (.slice (some ⟨g, 0, none⟩) L c2) ks := by
    by_cases e : L = 0
    · exact .inl ⟨_, _, by rw [e], List.eq_nil_of_length_eq_zero (by rw [HL.out]; exact e)⟩
    · exact .inr ⟨g, 0, c2, by rw [HL.out]; omega, by rw [HL.out]; exact hm, by rw [HL.out], hg2, fun i hi => by rw [Nat.zero_add]; exact ⟨hcell i (by rw [← HL.out]; exact hi), KC.out i (by rw [← HL.out]; exact hi)⟩⟩
  have HC := Lib.hid hcell
  have C0 := Lib.hid c0
  have C1 := Lib.hid c1
  have T2 := Lib.hid (HT.out.below h0 Bel2.out)
  have Z2 : Hid (0 < w2.heap.size) := Lib.hid (Nat.lt_of_lt_of_le h0 Bel2.out.size)
  have Tx := Lib.hid TX
  clear hcell c0 c1 TX HG
  refine (set5_any _ ks n w2 T2.out Z2.out Tx.out).mono ?_
  rintro e w3 ⟨va, rfl, ia, bel3⟩
  have Ia := Lib.hid ia
  have Bel3 := Lib.hid bel3
  have V3 := Lib.hid (HV.out.below (Bel2.out.trans (bel3.mono Bel2.out.size)))
  clear ia bel3
  go_wp2_with fail
  refine (ref6_any _ ks n w3 V3.out).mono ?_
  rintro e w4 ⟨vb, rfl, ib, bel4⟩
  have Ia4 := Lib.hid (Ia.out.below bel4)
  have Ib := Lib.hid ib
  have Bel4 := Lib.hid (Bel3.out.trans (bel4.mono Bel3.out.size))
  clear ib bel4
  go_wp2_with fail
  refine (same7 _ _ _ w4 Ia4.out Ib.out).mono ?_
  rintro e w5 ⟨rfl, bel5⟩
  have Bel5 := Lib.hid (Bel4.out.trans (bel5.mono Bel4.out.size))
  clear bel5 Ia4 Ib Bel4 Bel3 V3 Ia T2 Z2 Tx
  go_wp2_with fail
  go_loopw [8] (fun i wr => ∃ k : Nat, k ≤ L ∧ i = .int .i64 k ∧ Below w2.heap.size w2 wr) (fun i _ => L - (intOf i).toNat)
  case atStart => exact ⟨0, Nat.zero_le _, rfl, Bel5.out⟩
  obtain ⟨k, hk, rfl, bel⟩ := hrel
  have Bel := Lib.hid bel
  clear bel
  by_cases hkL : k < L
  case pos =>
    obtain ⟨b, off, rfl, cb⟩ := (HV.out.below (Bel2.out.trans (Bel.out.mono Bel2.out.size))).row (i := k) (by rw [HL.out]; exact hkL)
    have ca : wr.cell? ⟨g, k, none⟩ = some (.string (ks.getD k ByteArray.empty)) := by rw [Bel.out.cell (p := ⟨g, k, none⟩) hg2]; exact HC.out k hkL
    obtain ⟨s, hss⟩ : ∃ s, ks.getD k ByteArray.empty = s := ⟨_, rfl⟩
    rw [hss] at ca cb
    clear hss
    have l1 : (k : Int) < (L : Int) := by omega
    have l2 : (0 : Int) ≤ (k : Int) := by omega
    go_wp2_with fail
    go_quiet (fail)
    go_wp2_with fail
    exact ⟨⟨k + 1, by omega, by go_num, below_drewN Bel.out _⟩, by simp [intOf]; omega⟩
  obtain rfl : L = k := by omega
  have d0 : wr.cell? ⟨g, L, none⟩ = some (.string ⟨#[109, 97, 114, 107]⟩) := by rw [Bel.out.cell (p := ⟨g, L, none⟩) hg2]; exact C0.out
  have d1 : wr.cell? ⟨g, L + 1, none⟩ = some (.string ⟨#[116, 119, 111]⟩) := by rw [Bel.out.cell (p := ⟨g, L + 1, none⟩) hg2]; exact C1.out
  have f1 : ((⟨#[109, 97, 114, 107]⟩ : ByteArray) == ⟨#[109, 97, 114, 107]⟩) = true := by decide
  have f2 : ((⟨#[116, 119, 111]⟩ : ByteArray) == ⟨#[116, 119, 111]⟩) = true := by decide
  have q1 : (L : Int) + 2 ≤ (c2 : Int) := by simp at hg3; omega
  have q2 : L + 2 ≤ c2 := by simp at hg3; omega
  go_wp2_with fail
  go_ret
  exact ⟨rfl, Bel2.out.trans (Bel.out.mono Bel2.out.size)⟩
end Go.Proofs.YtboekjaagbbjdaaDoor
