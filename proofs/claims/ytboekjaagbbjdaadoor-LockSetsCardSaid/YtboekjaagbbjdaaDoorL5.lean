/- The stripes of keys. -/
import Derived.Test.YtboekjaagbbjdaaDoorL4
namespace Go.Proofs.YtboekjaagbbjdaaDoor
open Go.RowKit Go.Lib Go.Sort

/-- a slice that reads as texts -/
def Texts (w : World) (v : Value) (ks : List ByteArray) : Prop :=
  (∃ a cap, v = .slice a 0 cap ∧ ks = []) ∨
  ∃ b off cap, 0 < ks.length ∧ ks.length * 16 ≤ 140737488355328 ∧ v = .slice (some ⟨b, off, none⟩) ks.length cap ∧ b < w.heap.size ∧ ∀ i, i < ks.length → w.cell? ⟨b, off + i, none⟩ = some (.string (ks.getD i ByteArray.empty)) ∧ (ks.getD i ByteArray.empty).size ≤ 9223372036854775807
theorem Texts.below {w w' : World} {v : Value} {ks : List ByteArray} (h : Texts w v ks) (hb : Below w.heap.size w w') : Texts w' v ks := by
  rcases h with h | ⟨b, off, cap, h0, hm, rfl, hbl, hc⟩
  · exact .inl h
  · exact .inr ⟨b, off, cap, h0, hm, rfl, Nat.lt_of_lt_of_le hbl hb.size, fun i hi => by rw [hb.cell (p := ⟨b, off + i, none⟩) hbl]; exact hc i hi⟩

theorem addr_add (g o j : Nat) : (⟨g, o, none⟩ : Addr).add j = ⟨g, o + j, none⟩ := by unfold Addr.add; split <;> simp_all
theorem wpList_app1 {P : Program} (w : World) {ops : Array Oper} {rest : List Oper} {o : Oper} {a : Act} {Q : Exit → Act → World → Prop} (hgd : o.guard = none) (s x : Operand) (t : TypeId)
    (ho : o.op = .call { callee := .builtin .append, args := #[s, x], argTypes := #[t, t] })
    (base : Nat) (e : TypeId) (z : Value) (bytes : Nat) (ht : P.underlying t = some (.slice e)) (hinfo : (P.info? e).map (fun i => (i.zero, i.size, i.bytes)) = some (some z, 1, bytes)) (hz : z.cells.size = 1)
    (v : Value) (n : Nat) (xs : List Value) (hs : a.eval s = v) (hown : w.ownsRow base e 1 v n xs) (g : Nat) (u : Value) (hx : a.eval x = .slice (some ⟨g, 0, none⟩) 1 1)
    (hcell : w.cell? ⟨g, 0, none⟩ = some u) (h1 : u.oneCell' = true) (h63 : n + 1 ≤ maxLen) (hbytes : (n + 1) * bytes ≤ 140737488355328) (hbase : base ≤ w.heap.size)
    (h : ∀ v' w', w'.ownsRow base e 1 v' (n + 1) (xs ++ [u]) → Below base w w' → wpList P ops Q rest (a.put o.dst v') w') : wpList P ops Q (o :: rest) a w := by
  obtain ⟨i, hi, hz0, hz1, hz2⟩ := info_parts hinfo
  refine wpList_append_own w hgd s x t ho base e i z 1 bytes ht hi hz0 hz1 hz2 hz (by decide) v n xs hs hown ⟨g, 0, none⟩ 1 1 [u] hx rfl ?_ (by simpa using h1) h63 hbytes hbase ?_
  · intro j y hy
    cases j with
    | zero => simp at hy; subst hy; rw [addr_add]; exact hcell
    | succ j => simp at hy
  · intro v' w' h2 h3 _
    exact h v' w' h2 ((Below.refl _ _).grown h3 hbase (fun k hk => (hown.lt k hk).1))
theorem own_below {w w' : World} {base : Nat} {e : TypeId} {v : Value} {n : Nat} {xs : List Value} (h : w.ownsRow base e 1 v n xs) (hb : Below w.heap.size w w') : w'.ownsRow base e 1 v n xs := by
  refine ⟨h.1, ?_⟩
  rcases h.2 with hn | ⟨g, cap, cur, rfl, hbb, hgg, rest⟩
  · exact .inl hn
  · exact .inr ⟨g, cap, cur, rfl, hbb, (hb.block g (Array.getElem?_eq_some_iff.1 hgg).1).trans hgg, rest⟩
theorem size_alloc_le (w : World) (o : Obj) : w.heap.size ≤ (w.alloc o).heap.size := by simp
theorem below_alloc1 {B : Nat} {w w1 : World} {o : Obj} (hB : B ≤ w.heap.size) (h : Below B (w.alloc o) w1) : Below B w w1 := ((Below.refl _ _).alloc hB _).trans h
theorem cell1_new (w : World) (u : Value) (e : TypeId) : (w.alloc (.cells #[u] e)).cell? ⟨w.heap.size, 0, none⟩ = some u := by simp
theorem own_take {w : World} {base : Nat} {e : TypeId} {g : Nat} {n cap : Nat} {xs : List Value} (h : w.ownsRow base e 1 (.slice (some ⟨g, 0, none⟩) n cap) n xs) (m : Nat) (hm : m ≤ n) : w.ownsRow base e 1 (.slice (some ⟨g, 0, none⟩) m cap) m (xs.take m) := by
  have hl := h.1
  refine ⟨by rw [List.length_take]; omega, ?_⟩
  rcases h.2 with ⟨hn, _⟩ | ⟨g', cap', cur, hv, hbb, hgg, hnc, hcm, hcs, ht⟩
  · cases hn
  · simp only [Value.slice.injEq, Option.some.injEq, Addr.mk.injEq] at hv
    obtain ⟨⟨rfl, _⟩, _, rfl⟩ := hv
    refine .inr ⟨g, cap, cur, rfl, hbb, hgg, by omega, hcm, hcs, ?_⟩
    rw [Nat.mul_one] at ht ⊢
    rw [← ht, List.take_take, Nat.min_eq_left hm]

theorem info3 : (Tryd.prog.info? 3).map (fun i => (i.zero, i.size, i.bytes)) = some (some (.int .i64 0), 1, 8) := by kernel_rfl
/-- the stripe of a key, as a number -/
def strI (n : Nat) (k : ByteArray) : Int := (stripe k.data.toList n : Nat)

theorem sort_own (v : Value) (zs : List Int) (base : Nat) (w : World) (hbase : base ≤ w.heap.size) (hown : w.ownsRow base 3 1 v zs.length (zs.map (Value.int .i64))) (hl : zs.length < 4611686018427387904) :
    Calls Tryd.prog 9 #[v] w fun e w' => e = .returned (.tuple #[]) ∧ w'.ownsRow base 3 1 v zs.length ((zs.mergeSort fun x y => decide (x ≤ y)).map (Value.int .i64)) ∧ Below base w w' := by
  rcases hown.2 with ⟨rfl, hn⟩ | ⟨g, cap, cur, rfl, hbb, hgg, hnc, hcm, hcs, ht⟩
  · rw [hn]
    refine (Tryd.slices_Sort_int_none _ _ _).mono ?_
    rintro e w' ⟨rfl, rfl⟩
    obtain rfl : zs = [] := List.eq_nil_of_length_eq_zero hn
    exact ⟨rfl, by simpa using hown, Below.refl _ _⟩
  · refine (Tryd.slices_Sort_int g 0 cap zs w (holds_of_blockI hgg (by simpa using ht)) (Array.getElem?_eq_some_iff.1 hgg).1 hl).mono ?_
    rintro e w' ⟨rfl, n, os, rfl⟩
    exact ⟨rfl, ownsRow_sortedI (by simp) hbb hgg hnc hcm hcs, (Below.refl _ _).grown (grownBy_sortedI _) hbase (fun k hk => by cases hk; exact hbb)⟩
theorem compact_own (v : Value) (zs : List Int) (base : Nat) (w : World) (hbase : base ≤ w.heap.size) (hown : w.ownsRow base 3 1 v zs.length (zs.map (Value.int .i64))) (hl : zs.length < 4611686018427387904) :
    Calls Tryd.prog 10 #[v] w fun e w' => ∃ v', e = .returned v' ∧ w'.ownsRow base 3 1 v' (compact zs).length ((compact zs).map (Value.int .i64)) ∧ Below base w w' := by
  have hcl := compact_length_le zs
  rcases hown.2 with ⟨rfl, hn⟩ | ⟨g, cap, cur, rfl, hbb, hgg, hnc, hcm, hcs, ht⟩
  · obtain rfl : zs = [] := List.eq_nil_of_length_eq_zero hn
    refine (Tryd.slices_Compact_int_empty _ _ _).mono ?_
    rintro e w' ⟨rfl, rfl⟩
    exact ⟨_, rfl, by simpa [compact, compactUpTo] using hown, Below.refl _ _⟩
  · refine (Tryd.slices_Compact_int g 0 cap zs w (holds_of_blockI hgg (by simpa using ht)) (by omega) hnc).mono ?_
    rintro e w' ⟨rfl, n, rfl⟩
    have hlen : (compact zs ++ List.replicate (zs.length - (compact zs).length) 0).length = zs.length := by simp; omega
    have h1 := ownsRow_sortedI (os := #[]) (n := n) (ts := compact zs ++ List.replicate (zs.length - (compact zs).length) 0) hlen hbb hgg hnc hcm hcs
    have h2 := own_take h1 (compact zs).length hcl
    rw [grow_empty] at h2
    have h3 := grownBy_sortedI (w := w) (g := g) (n := n) (os := #[]) (compact zs ++ List.replicate (zs.length - (compact zs).length) 0).toArray
    rw [grow_empty] at h3
    refine ⟨_, rfl, ?_, (Below.refl _ _).grown h3 hbase (fun k hk => by cases hk; exact hbb)⟩
    simpa using h2

set_option maxHeartbeats 2000000 in
theorem set5_row (b off cap : Nat) (ks : List ByteArray) (n : Int) (w : World) (ht : Tab w) (h0 : 0 < w.heap.size) (hm : ks.length * 16 ≤ 140737488355328) (hb : b < w.heap.size) (h1 : 1 ≤ n) (h2 : n ≤ 64)
    (hc : ∀ i, i < ks.length → w.cell? ⟨b, off + i, none⟩ = some (.string (ks.getD i ByteArray.empty)) ∧ (ks.getD i ByteArray.empty).size ≤ 9223372036854775807) :
    Calls Tryd.prog 5 #[.slice (some ⟨b, off, none⟩) ks.length cap, .int .i64 n] w fun e w' => ∃ v', e = .returned v' ∧ w'.ownsRow w.heap.size 3 1 v' (setOf (ks.map (strI n.toNat))).length ((setOf (ks.map (strI n.toNat))).map (Value.int .i64)) ∧ Below w.heap.size w w' := by
  have Hc := Lib.hid hc
  have Ht := Lib.hid ht
  clear hc ht
  generalize hn : ks.length = L at *
  have Hn := Lib.hid hn
  clear hn
  have own0 := Lib.hid (World.ownsRow_nil w w.heap.size 3 1)
  go_enter Tryd.func5, Tryd.ntmps5
  go_wp2_with fail
  go_loopw [5, 16] (fun v i wr => ∃ (k : Nat) (v' : Value), k ≤ L ∧ i = .int .i64 k ∧ v' = v ∧ Below w.heap.size w wr ∧ wr.ownsRow w.heap.size 3 1 v' k (((ks.take k).map (strI n.toNat)).map (Value.int .i64))) (fun _ i _ => L - (intOf i).toNat)
  case atStart => exact ⟨0, _, Nat.zero_le _, rfl, rfl, Below.refl _ _, by simpa using own0.out⟩
  obtain ⟨k, v, hk, rfl, rfl, bel, own⟩ := hrel
  have Bel := Lib.hid bel
  have Own := Lib.hid own
  clear bel own
  by_cases hlt : k < L
  case pos =>
    obtain ⟨cb, hs⟩ := Hc.out k hlt
    have cb : wr.cell? ⟨b, off + k, none⟩ = some (.string (ks.getD k ByteArray.empty)) := by rw [Bel.out.cell (p := ⟨b, off + k, none⟩) hb]; exact cb
    have Sn := Lib.hid (show (ks.take (k + 1)).map (strI n.toNat) = (ks.take k).map (strI n.toNat) ++ [strI n.toNat (ks.getD k ByteArray.empty)] by
      have : k < ks.length := by have := Hn.out; omega
      rw [List.take_succ_eq_append_getElem this, List.map_append, List.getD_eq_getElem?_getD, List.getElem?_eq_getElem this]; rfl)
    obtain ⟨s, hss⟩ : ∃ s, ks.getD k ByteArray.empty = s := ⟨_, rfl⟩
    rw [hss] at cb hs Sn
    clear hss
    go_wp2_with fail
    refine (stripe8 s n _ (Ht.out.below h0 Bel.out) (by have := Bel.out.size; omega) hs h1 h2).mono ?_
    rintro e w1 ⟨rfl, bel1⟩
    have Bel1 := Lib.hid (Bel.out.trans (bel1.mono Bel.out.size))
    have Own1 := Lib.hid (own_below Own.out bel1)
    have Sz := Lib.hid Bel1.out.size
    have st : strI n.toNat s = (stripe s.data.toList n.toNat : Nat) := rfl
    rw [← st]
    generalize strI n.toNat s = q at *
    have hmm : k + 1 ≤ maxLen := by unfold maxLen; omega
    have hbb : (k + 1) * 8 ≤ 140737488355328 := by omega
    have Hmm := Lib.hid hmm
    have Hbb := Lib.hid hbb
    clear bel1 st hmm hbb cb hs
    go_wp2_with (at_builtin; refine wpList_app1 _ rfl _ _ 23 rfl w.heap.size 3 (.int .i64 0) 8 Tryd.underlying23 info3 rfl _ _ _ rfl (Own1.out.alloc _) w1.heap.size (.int .i64 q) rfl (cell1_new _ _ _) rfl Hmm.out Hbb.out (Nat.le_trans Sz.out (size_alloc_le _ _)) ?_; intro v' w2 hown' hbel)
    go_roundw
    case rel => exact ⟨k + 1, _, by omega, by go_num, rfl, Bel1.out.trans (below_alloc1 Sz.out hbel), by rw [Sn.out]; simpa using hown'⟩
    case measure => simp [intOf]; omega
  obtain rfl : L = k := by omega
  have hl : ks.take L = ks := List.take_of_length_le (by have := Hn.out; omega)
  have own := Own.out
  rw [hl] at own
  have hL : (ks.map (strI n.toNat)).length = L := by simp [Hn.out]
  rw [← hL] at own
  have Own := Lib.hid own
  have Sz := Lib.hid Bel.out.size
  have HL := Lib.hid (show (ks.map (strI n.toNat)).length < 4611686018427387904 by omega)
  clear own hL hl
  go_wp2_with fail
  refine (sort_own _ _ _ _ Sz.out Own.out HL.out).mono ?_
  rintro e w1 ⟨rfl, own1, bel1⟩
  have Own1 := Lib.hid own1
  have Bel1 := Lib.hid (Bel.out.trans bel1)
  have HL2 := Lib.hid (show ((ks.map (strI n.toNat)).mergeSort fun x y => decide (x ≤ y)).length < 4611686018427387904 by rw [List.length_mergeSort]; exact HL.out)
  clear own1 bel1
  go_wp2_with fail
  refine (compact_own _ _ _ _ Bel1.out.size (by rw [List.length_mergeSort]; exact Own1.out) HL2.out).mono ?_
  rintro e w2 ⟨v2, rfl, own2, bel2⟩
  have Own2 := Lib.hid own2
  have Bel2 := Lib.hid (Bel1.out.trans bel2)
  clear own2 bel2
  go_wp2_with fail
  go_ret
  exact ⟨_, rfl, Own2.out, Bel2.out⟩
end Go.Proofs.YtboekjaagbbjdaaDoor
