/- The walk of the law PlanReckons: it returns true. -/
import Derived.Test.YtomcdnkafgmleaaQ7
import Derived.Test.YtomcdnkafgmleaaA1
namespace Go.Proofs.Ytomcdnkafgmleaa
open Go.RowKit

theorem info3 : (Try.prog.info? 3).map (fun i => (i.zero, i.size, i.bytes)) = some (some (.int .i64 0), 1, 8) := by kernel_rfl

/-- what stays from call to call: the history, the copy, the mark behind it -/
structure Keep (w0 w : World) (v own : Value) (h k : List Int) (g n : Nat) : Prop where
  below : Below w0.heap.size w0 w
  i0 : Ints w v h
  i1 : Ints w own k
  c77 : w.cell? ⟨g, n, none⟩ = some (.int .i64 77)
  fz : ∀ i, w.frozen? ⟨g, i, none⟩ = false
theorem Keep.step {w0 w w' : World} {v own : Value} {h k : List Int} {g n : Nat} (K : Keep w0 w v own h k g n) (hb : Below w.heap.size w w') : Keep w0 w' v own h k g n :=
  ⟨below_upto K.below hb, K.i0.below hb, K.i1.below hb, cell_below K.c77 hb, fun i => by
    rw [hb.frozen (p := ⟨g, i, none⟩) (World.block_lt_of_cell? w ⟨g, n, none⟩ K.c77)]; exact K.fz i⟩
theorem bel_alloc (w : World) (o : Obj) : Below w.heap.size w (w.alloc o) := (Below.refl _ _).alloc (Nat.le_refl _) _
theorem drewN_bel {w w' : World} (h : ∃ n, w' = w.drewN n) : Below w.heap.size w w' := by obtain ⟨n, rfl⟩ := h; exact below_drewN (Below.refl _ _) n
/-- a block of cells -/
def Blk (w : World) (p : Nat) (l : List Value) : Prop := (∀ i, i < l.length → w.cell? ⟨p, i, none⟩ = l[i]?) ∧ (∀ i, w.frozen? ⟨p, i, none⟩ = false) ∧ p < w.heap.size
theorem Blk.below {w w' : World} {p : Nat} {l : List Value} (h : Blk w p l) (hb : Below w.heap.size w w') : Blk w' p l :=
  ⟨fun i hi => by rw [hb.cell (p := ⟨p, i, none⟩) h.2.2]; exact h.1 i hi, fun i => by rw [hb.frozen (p := ⟨p, i, none⟩) h.2.2]; exact h.2.1 i, Nat.lt_of_lt_of_le h.2.2 hb.size⟩
theorem Blk.new (w : World) (l : List Value) (t : TypeId) : Blk (w.alloc (.cells l.toArray t)) w.heap.size l :=
  ⟨fun i hi => by simp, fun i => by rw [World.frozen?_alloc_at _ _ _ _ rfl], by simp⟩


theorem take_ints {w : World} {g n cap : Nat} {h : List Int} {ys : List Value} (hn : h.length = n) (hm : n ≤ 9223372036854775807) (hc : ∀ i u, (h.map (Value.int .i64) ++ ys)[i]? = some u → w.cell? ⟨g, i, none⟩ = some u) : Ints w (.slice (some ⟨g, 0, none⟩) n cap) h := by
  subst hn
  by_cases h0 : h = []
  · subst h0; exact .inl ⟨_, _, rfl, rfl⟩
  · refine .inr ⟨g, 0, cap, List.length_pos_iff.2 h0, hm, rfl, fun i hi => ?_⟩
    rw [Nat.zero_add]
    refine hc i _ ?_
    rw [List.getElem?_append_left (by simpa using hi)]
    simp [List.getD_eq_getElem?_getD, List.getElem?_eq_getElem hi]

theorem own_len {w : World} {B n : Nat} {v : Value} {h : List Int} (hn : h.length = n) (own : w.ownsRow B 3 1 v (0 + (h.map (Value.int .i64)).length) ([] ++ h.map (Value.int .i64))) : w.ownsRow B 3 1 v n (h.map (Value.int .i64)) := by
  simpa [hn] using own
theorem keep_start {w w2 : World} {v0 : Value} {h : List Int} {g n cap : Nat} (hn : h.length = n) (hI : Ints w v0 h) (hb : Below w.heap.size w w2) (hc : ∀ i u, (h.map (Value.int .i64) ++ [Value.int .i64 77])[i]? = some u → w2.cell? ⟨g, i, none⟩ = some u)
    (hf : ∀ i, w2.frozen? ⟨g, i, none⟩ = false) (hm : n ≤ 9223372036854775807) : Keep w w2 v0 (.slice (some ⟨g, 0, none⟩) n cap) h h g n :=
  ⟨hb, hI.below hb, take_ints hn hm hc, hc n _ (by subst hn; simp), hf⟩

theorem arg_form {w w11 : World} {a0 : Option Addr} {n cap0 : Nat} {h : List Int} (hn : h.length = n) (h0 : 0 < n) (hI : Ints w (.slice a0 n cap0) h) (hb : Below w.heap.size w w11) :
    ∃ b off, a0 = some ⟨b, off, none⟩ ∧ b < w.heap.size ∧ ∀ j, j < n → w11.cell? ⟨b, off + j, none⟩ = some (.int .i64 (h.getD j 0)) := by
  rcases hI with ⟨a, cap, e, hx⟩ | ⟨b, off, cap, h1, hm, e, hc⟩
  · subst hx; simp at hn; omega
  · simp only [Value.slice.injEq] at e
    have hbl := World.block_lt_of_cell? w ⟨b, off + 0, none⟩ (hc 0 h1)
    exact ⟨b, off, e.1, hbl, fun j hj => by rw [hb.cell (p := ⟨b, off + j, none⟩) hbl]; exact hc j (by omega)⟩
theorem own_form {w : World} {g n cap : Nat} {h : List Int} (hn : h.length = n) (hI : Ints w (.slice (some ⟨g, 0, none⟩) n cap) h) : ∀ j, j < n → w.cell? ⟨g, j, none⟩ = some (.int .i64 (h.getD j 0)) := by
  intro j hj
  rcases hI with ⟨a, cap, e, hx⟩ | ⟨b, off, cap, h1, hm, e, hc⟩
  · subst hx; simp at hn; omega
  · simp only [Value.slice.injEq, Option.some.injEq, Addr.mk.injEq] at e
    obtain ⟨⟨rfl, rfl, _⟩, _⟩ := e
    have := hc j (by omega)
    rwa [Nat.zero_add] at this
theorem get_last (f : Nat → Value) (k : Nat) (u : Value) : ((List.range k).map f ++ [u])[k]? = some u := by
  rw [List.getElem?_append_right (by simp)]; simp
/-- the loop that halves: the copy written over, number by number -/
structure Halved (w11 wr : World) (v : Value) (h : List Int) (f2 : Nat → Int) (g n k : Nat) : Prop where
  own : wr.ownsRow w11.heap.size 3 1 v k ((List.range k).map fun j => Value.int .i64 (f2 j))
  grown : w11.grownBy wr (some g)
  cells : ∀ j, j < n → wr.cell? ⟨g, j, none⟩ = some (.int .i64 (if j < k then f2 j else h.getD j 0))
  fz : ∀ j, wr.frozen? ⟨g, j, none⟩ = false
theorem grown_below {w wr w1 : World} {row : Option Nat} (h : w.grownBy wr row) (hb : Below w.heap.size wr w1) : w.grownBy w1 row :=
  ⟨hb.os.trans h.os, hb.tape.trans h.tape, hb.output.trans h.output, Nat.le_trans h.size hb.size, fun k hk hne => (hb.block k hk).trans (h.block k hk hne)⟩
theorem Halved.start {w11 : World} {h : List Int} {f2 : Nat → Int} {g n : Nat} (hc : ∀ j, j < n → w11.cell? ⟨g, j, none⟩ = some (.int .i64 (h.getD j 0))) (hf : ∀ j, w11.frozen? ⟨g, j, none⟩ = false) : Halved w11 w11 (.slice none 0 0) h f2 g n 0 :=
  ⟨World.ownsRow_nil _ _ _ _, ⟨rfl, rfl, rfl, Nat.le_refl _, fun _ _ _ => rfl⟩, fun j hj => by rw [if_neg (by omega)]; exact hc j hj, hf⟩
theorem Halved.keeps {w11 wr w1 : World} {v : Value} {h : List Int} {f2 : Nat → Int} {g n k : Nat} {o : Obj} (H : Halved w11 wr v h f2 g n k) (hg : g < w11.heap.size) (bel : Below w11.heap.size (wr.alloc o) w1) :
    (∀ j, w1.cell? ⟨g, j, none⟩ = wr.cell? ⟨g, j, none⟩) ∧ (∀ j, w1.frozen? ⟨g, j, none⟩ = false) := by
  have hz := H.grown.size
  refine ⟨fun j => ?_, fun j => ?_⟩
  · rw [bel.cell (p := ⟨g, j, none⟩) hg, World.cell?_alloc_past _ _ _ (by omega)]
  · rw [bel.frozen (p := ⟨g, j, none⟩) hg, World.frozen?_alloc_old _ _ _ (by simp; omega)]; exact H.fz j
theorem keeps_cell {w11 wr w1 : World} {v : Value} {h : List Int} {f2 : Nat → Int} {g n k : Nat} (H : Halved w11 wr v h f2 g n k) (hc : ∀ j, w1.cell? ⟨g, j, none⟩ = wr.cell? ⟨g, j, none⟩) (hk : k < n) : w1.cell? ⟨g, k, none⟩ = some (.int .i64 (h.getD k 0)) := by
  rw [hc, H.cells k hk, if_neg (Nat.lt_irrefl _)]
theorem Halved.next {w11 wr w1 : World} {v v' : Value} {h : List Int} {f2 : Nat → Int} {g n k : Nat} {o : Obj} (H : Halved w11 wr v h f2 g n k) (hg : g < w11.heap.size) (hk : k < n)
    (own' : w1.ownsRow w11.heap.size 3 1 v' (k + 1) (((List.range k).map fun j => Value.int .i64 (f2 j)) ++ [.int .i64 (f2 k)])) (bel : Below w11.heap.size (wr.alloc o) w1) : Halved w11 (w1.setCell ⟨g, k, none⟩ (.int .i64 (f2 k))) v' h f2 g n (k + 1) := by
  have hz := H.grown.size
  obtain ⟨hc, hf⟩ := H.keeps hg bel
  refine ⟨?_, ?_, fun j hj => ?_, fun j => by rw [World.frozen?_setCell]; exact hf j⟩
  · have := own_stored own' (k := k) (u := .int .i64 (f2 k)) hg
    rw [List.range_succ, List.map_append]; exact this
  · exact (grown_below H.grown (below_alloc1 hz bel)).trans (grownBy_setCell w1 g k _)
  · by_cases e : j = k
    · subst e
      rw [if_pos (by omega)]
      exact World.cell?_setCell_same _ _ _ (by rw [hc]; exact H.cells j hj)
    · rw [World.cell?_setCell_other _ _ _ _ (fun h => e (by simpa using h.symm)), hc, H.cells j hj]
      by_cases h1 : j < k
      · rw [if_pos h1, if_pos (by omega)]
      · rw [if_neg h1, if_neg (by omega)]

/-- what stays in the second half: the list that was made, and the copy, written over alike -/
structure Keep2 (w0 w : World) (v own : Value) (h : List Int) : Prop where
  below : Below w0.heap.size w0 w
  i0 : Ints w v h
  i1 : Ints w own h
theorem Keep2.step {w0 w w' : World} {v own : Value} {h : List Int} (K : Keep2 w0 w v own h) (hb : Below w.heap.size w w') : Keep2 w0 w' v own h :=
  ⟨below_upto K.below hb, K.i0.below hb, K.i1.below hb⟩
theorem keep2_start {w w11 wr : World} {v0 v own : Value} {h k : List Int} {f2 : Nat → Int} {g n cap : Nat} (H : Halved w11 wr v h f2 g n n) (K : Keep w w11 v0 own h k g n) (hg0 : w.heap.size ≤ g) (hm : n ≤ 9223372036854775807) :
    Keep2 w wr v (.slice (some ⟨g, 0, none⟩) n cap) ((List.range n).map f2) := by
  refine ⟨K.below.grown H.grown (by have := K.below.size; omega) (fun k hk => by cases hk; exact hg0), ?_, ?_⟩
  · have := H.own
    have e : ((List.range n).map fun j => Value.int .i64 (f2 j)) = ((List.range n).map f2).map (Value.int .i64) := by simp
    rw [e] at this
    exact ints_of_vals (own_vals this hm)
  · by_cases h0 : n = 0
    · subst h0; exact .inl ⟨_, _, rfl, by simp⟩
    · refine .inr ⟨g, 0, cap, by simp; omega, by simpa using hm, by simp, fun i hi => ?_⟩
      have hi' : i < n := by simpa using hi
      rw [Nat.zero_add, H.cells i hi', if_pos hi']
      simp [List.getD_eq_getElem?_getD, hi']
theorem Blk.grown {w w' : World} {p g : Nat} {l : List Value} (h : Blk w p l) (hb : w.grownBy w' (some g)) (hne : p ≠ g) : Blk w' p l := by
  have hh := hb.block p h.2.2 (by simpa using hne)
  exact ⟨fun i hi => by rw [World.cell?_of_block (w := w) hh]; exact h.1 i hi, fun i => by rw [World.frozen?_of_block (w := w) hh]; exact h.2.1 i, Nat.lt_of_lt_of_le h.2.2 hb.size⟩

theorem Ints.set {w : World} {v : Value} {h : List Int} (hv : Ints w v h) {p i : Nat} {u : Value} (hne : v.ownBlock ≠ some p) : Ints (w.setCell ⟨p, i, none⟩ u) v h := by
  rcases hv with hv | ⟨b, off, cap, h0, hm, rfl, hc⟩
  · exact .inl hv
  · refine .inr ⟨b, off, cap, h0, hm, rfl, fun j hj => ?_⟩
    rw [World.cell?_setCell_other _ _ _ _ (fun e => hne (by simp [Value.ownBlock]; exact (congrArg Addr.block e).symm))]; exact hc j hj
theorem Floats.set {w : World} {v : Value} {n : Nat} {f : Nat → Nat} (hv : Floats w v n f) {p i : Nat} {u : Value} (hne : v.ownBlock ≠ some p) : Floats (w.setCell ⟨p, i, none⟩ u) v n f := by
  rcases hv with hv | ⟨b, off, cap, h0, hm, rfl, hc⟩
  · exact .inl hv
  · refine .inr ⟨b, off, cap, h0, hm, rfl, fun j hj => ?_⟩
    rw [World.cell?_setCell_other _ _ _ _ (fun e => hne (by simp [Value.ownBlock]; exact (congrArg Addr.block e).symm))]; exact hc j hj
theorem Blk.set {w : World} {p q i : Nat} {l : List Value} {u : Value} (h : Blk w q l) (hne : q ≠ p) : Blk (w.setCell ⟨p, i, none⟩ u) q l :=
  ⟨fun j hj => by rw [World.cell?_setCell_other _ _ _ _ (fun e => hne (congrArg Addr.block e).symm)]; exact h.1 j hj, fun j => by rw [World.frozen?_setCell]; exact h.2.1 j, by simp [World.setCell]; exact h.2.2⟩
theorem Blk.over {w : World} {p i : Nat} {l : List Value} {u : Value} (h : Blk w p l) (hi : i < l.length) : Blk (w.setCell ⟨p, i, none⟩ u) p (l.set i u) := by
  refine ⟨fun j hj => ?_, fun j => by rw [World.frozen?_setCell]; exact h.2.1 j, by simp [World.setCell]; exact h.2.2⟩
  rw [List.length_set] at hj
  by_cases e : j = i
  · subst e
    rw [World.cell?_setCell_same _ _ _ (by rw [h.1 j hj, List.getElem?_eq_getElem hj])]
    simp [hj]
  · rw [World.cell?_setCell_other _ _ _ _ (fun h => e (by simpa using h.symm)), h.1 j hj, List.getElem?_set_ne (fun h => e h.symm)]
theorem Keep2.set {w0 w : World} {v own : Value} {h : List Int} (K : Keep2 w0 w v own h) {p i : Nat} {u : Value} (hp : w0.heap.size ≤ p) (h1 : v.ownBlock ≠ some p) (h2 : own.ownBlock ≠ some p) : Keep2 w0 (w.setCell ⟨p, i, none⟩ u) v own h :=
  ⟨K.below.setCell hp u, K.i0.set h1, K.i1.set h2⟩

set_option maxRecDepth 100000 in
set_option maxHeartbeats 8000000 in
theorem reckons_walk (v0 : Value) (h : List Int) (wt : Nat) (w : World) (hs : Src w v0 (h.map (Value.int .i64))) (hr : h.length * 8 ≤ 140737488351232) (hwt : wt < 18446744073709551616) :
    Calls Try.prog 6 #[v0, .float .f64 wt] w fun e w' => e = .returned (.bool true) ∧ Below w.heap.size w w' := by
  obtain ⟨fa, fb, c, oa, ob, hS⟩ := stats_any h
  obtain ⟨m, f, c2, of, hT⟩ := smooth_any h wt hwt
  obtain ⟨x0, y0, x1, y1, x2, y2, x3, y3, c3, hX, hR⟩ := quarters_any h
  have S := Lib.hid hS
  have T := Lib.hid hT
  have R := Lib.hid hR
  have X := Lib.hid hX
  have Of := Lib.hid of
  have N1 := Lib.hid (fun w => number_c fa fa w oa)
  have N2 := Lib.hid (fun w => number_c fb fb w ob)
  clear hS hT hX hR of oa ob
  have Hs := Lib.hid hs
  have own0 := Lib.hid (World.ownsRow_nil w w.heap.size 3 1)
  have hI0 : Ints w v0 h := by
    rcases hs with ⟨e, hx⟩ | ⟨ad, cap, e, hx⟩ | ⟨b, off, cap, hl, e, hc⟩
    · exact .inl ⟨_, _, e, by simpa using hx⟩
    · exact .inl ⟨_, _, e, by simpa using hx⟩
    · by_cases h0 : h = []
      · subst h0; exact .inl ⟨_, _, by simpa using e, rfl⟩
      · refine .inr ⟨b, off, cap, List.length_pos_iff.2 h0, by simpa using hl, by simpa using e, fun i hi => ?_⟩
        rw [hc i (by simpa using hi)]
        simp [List.getD_eq_getElem?_getD, List.getElem?_eq_getElem hi]
  have HI0 := Lib.hid hI0
  have b1 : 0 + (h.map (Value.int .i64)).length ≤ maxLen := by unfold maxLen; simp; omega
  have b2 : (0 + (h.map (Value.int .i64)).length) * 8 ≤ 140737488355328 := by simp; omega
  have b3 : h.length + 1 ≤ maxLen := by unfold maxLen; omega
  have b4 : (h.length + 1) * 8 ≤ 140737488355328 := by omega
  have one : ∀ u ∈ h.map (Value.int .i64), u.oneCell' = true := by intro u hu; obtain ⟨x, _, rfl⟩ := List.mem_map.1 hu; rfl
  have One := Lib.hid one
  have B1 := Lib.hid b1
  have B2 := Lib.hid b2
  have B3 := Lib.hid b3
  have B4 := Lib.hid b4
  clear hs hI0 one b1 b2 b3 b4
  -- the slice that came in, in its form
  obtain ⟨a0, cap0, rfl, hn9⟩ : ∃ a0 cap0, v0 = .slice a0 h.length cap0 ∧ h.length ≤ 9223372036854775807 := by
    rcases Hs.out with ⟨e, hx⟩ | ⟨ad, cap, e, hx⟩ | ⟨b, off, cap, hl, e, hc⟩
    · have : h = [] := by simpa using hx
      subst this; exact ⟨_, _, e, by simp⟩
    · have : h = [] := by simpa using hx
      subst this; exact ⟨_, _, e, by simp⟩
    · exact ⟨_, _, by simpa using e, by simpa using hl⟩
  generalize hn : h.length = n at *
  have Hn := Lib.hid hn
  clear hn
  have tok1 : True := trivial
  go_enter Try.func6, Try.ntmps6
  go_wp2_with (first | (at_builtin; have _t := tok1; refine wpList_appSrc _ rfl _ _ 36 rfl w.heap.size 3 (.int .i64 0) 8 Try.underlying36 info3 rfl _ _ _ rfl own0.out _ _ rfl Hs.out One.out B1.out B2.out (Nat.le_refl _) ?_; intro v1 w1 own1 bel1; clear tok1; have own2 := own_len Hn.out own1; have Own2 := Lib.hid own2; have Z1 := Lib.hid bel1.size; have Bel1 := Lib.hid bel1; clear own1 own2 bel1) | (at_builtin; go_loud (refine wpList_app1 _ rfl _ _ 36 rfl w.heap.size 3 (.int .i64 0) 8 Try.underlying36 info3 rfl _ _ _ rfl (Own2.out.alloc _) w1.heap.size (.int .i64 77) rfl (cell1_new _ _ _) rfl B3.out B4.out (Nat.le_trans Z1.out (size_alloc_le _ _)) ?_); intro v2 w2 own3 bel2; have Bel2 := Lib.hid (Bel1.out.trans (below_alloc1 Z1.out bel2)); clear bel2; obtain ⟨g, cap, rfl, hg1, hg2, hg3, hg4, hg5, hg6⟩ := own_room own3 (Nat.succ_pos _); have K1 := keep_start (cap := cap) Hn.out HI0.out Bel2.out hg5 hg6 hn9; clear own3 hg5 hg6))

  have K := K1; clear K1
  refine ((S.out _ _ K.i1).1).mono ?_
  rintro e w' ⟨rfl, rfl⟩
  go_wp2_with fail
  refine ((S.out _ _ K.i0).2).mono ?_
  rintro e w' ⟨rfl, rfl⟩
  go_wp2_with fail
  refine ((T.out _ _ K.i1).1).mono ?_
  rintro e w3 ⟨s1, rfl, F1, bel, _⟩
  have K_ := K.step bel
  clear K bel
  have K := K_; clear K_
  go_wp2_with fail
  refine ((T.out _ _ K.i0).2).mono ?_
  rintro e w4 ⟨s2, rfl, F2, bel, _⟩
  have K_ := K.step bel
  have F1_ := F1.below bel
  clear K F1 bel
  have K := K_; clear K_
  have F1 := F1_; clear F1_
  go_wp2_with fail
  refine ((R.out _ _ K.i1).1).mono ?_
  rintro e w5 ⟨rfl, bel⟩
  have K_ := K.step bel
  have F1_ := F1.below bel
  have F2_ := F2.below bel
  clear K F1 F2 bel
  have K := K_; clear K_
  have F1 := F1_; clear F1_
  have F2 := F2_; clear F2_
  go_wp2_with fail
  have hgp : g < w5.heap.size := World.block_lt_of_cell? w5 ⟨g, n, none⟩ K.c77
  have P := Blk.new w5 [.complex .f64 x0 y0, .complex .f64 x1 y1, .complex .f64 x2 y2, .complex .f64 x3 y3] 25
  have bel := bel_alloc w5 (.cells #[.complex .f64 x0 y0, .complex .f64 x1 y1, .complex .f64 x2 y2, .complex .f64 x3 y3] 25)
  have K_ := K.step bel
  have F1_ := F1.below bel
  have F2_ := F2.below bel
  clear K F1 F2 bel
  have K := K_; clear K_
  have F1 := F1_; clear F1_
  have F2 := F2_; clear F2_
  generalize w5.alloc (.cells #[.complex .f64 x0 y0, .complex .f64 x1 y1, .complex .f64 x2 y2, .complex .f64 x3 y3] 25) = w6 at *
  generalize w5.heap.size = p at *
  refine ((R.out _ _ K.i0).2).mono ?_
  rintro e w7 ⟨rfl, bel⟩
  have K_ := K.step bel
  have F1_ := F1.below bel
  have F2_ := F2.below bel
  have P_ := P.below bel
  clear K F1 F2 P bel
  have K := K_; clear K_
  have F1 := F1_; clear F1_
  have F2 := F2_; clear F2_
  have P := P_; clear P_
  go_wp2_with fail
  have hgq : g < w7.heap.size := World.block_lt_of_cell? w7 ⟨g, n, none⟩ K.c77
  have hpq : p < w7.heap.size := P.2.2
  have Q := Blk.new w7 [.float .f64 x0, .float .f64 y0, .float .f64 x1, .float .f64 y1, .float .f64 x2, .float .f64 y2, .float .f64 x3, .float .f64 y3] 28
  have bel := bel_alloc w7 (.cells #[.float .f64 x0, .float .f64 y0, .float .f64 x1, .float .f64 y1, .float .f64 x2, .float .f64 y2, .float .f64 x3, .float .f64 y3] 28)
  have K_ := K.step bel
  have F1_ := F1.below bel
  have F2_ := F2.below bel
  have P_ := P.below bel
  clear K F1 F2 P bel
  have K := K_; clear K_
  have F1 := F1_; clear F1_
  have F2 := F2_; clear F2_
  have P := P_; clear P_
  generalize w7.alloc (.cells #[.float .f64 x0, .float .f64 y0, .float .f64 x1, .float .f64 y1, .float .f64 x2, .float .f64 y2, .float .f64 x3, .float .f64 y3] 28) = w8 at *
  generalize w7.heap.size = q at *
  refine (N1.out _).mono ?_
  rintro e w' ⟨rfl, rfl⟩
  go_wp2_with fail
  refine (N2.out _).mono ?_
  rintro e w' ⟨rfl, rfl⟩
  go_wp2_with fail
  refine (numbers_any _ _ _ _ _ F1 F2 Of.out).mono ?_
  rintro e w9 ⟨rfl, hd⟩
  have bel := drewN_bel hd
  clear hd F1 F2
  have K_ := K.step bel
  have P_ := P.below bel
  have Q_ := Q.below bel
  clear K P Q bel
  have K := K_; clear K_
  have P := P_; clear P_
  have Q := Q_; clear Q_
  have p0 : w9.cell? ⟨p, 0, none⟩ = some (.complex .f64 x0 y0) := P.1 0 (by simp)
  have p1 : w9.cell? ⟨p, 1, none⟩ = some (.complex .f64 x1 y1) := P.1 1 (by simp)
  have p2 : w9.cell? ⟨p, 2, none⟩ = some (.complex .f64 x2 y2) := P.1 2 (by simp)
  have p3 : w9.cell? ⟨p, 3, none⟩ = some (.complex .f64 x3 y3) := P.1 3 (by simp)
  have q0 : w9.cell? ⟨q, 0, none⟩ = some (.float .f64 x0) := Q.1 0 (by simp)
  have q1 : w9.cell? ⟨q, 1, none⟩ = some (.float .f64 y0) := Q.1 1 (by simp)
  have q2 : w9.cell? ⟨q, 2, none⟩ = some (.float .f64 x1) := Q.1 2 (by simp)
  have q3 : w9.cell? ⟨q, 3, none⟩ = some (.float .f64 y1) := Q.1 3 (by simp)
  have q4 : w9.cell? ⟨q, 4, none⟩ = some (.float .f64 x2) := Q.1 4 (by simp)
  have q5 : w9.cell? ⟨q, 5, none⟩ = some (.float .f64 y2) := Q.1 5 (by simp)
  have q6 : w9.cell? ⟨q, 6, none⟩ = some (.float .f64 x3) := Q.1 6 (by simp)
  have q7 : w9.cell? ⟨q, 7, none⟩ = some (.float .f64 y3) := Q.1 7 (by simp)
  go_wp2_with fail
  refine (X.out _).mono ?_
  rintro e w10 ⟨rfl, bel⟩
  clear p0 p1 p2 p3 q0 q1 q2 q3
  have K_ := K.step bel
  have P_ := P.below bel
  have Q_ := Q.below bel
  clear K P Q bel
  have K := K_; clear K_
  have P := P_; clear P_
  have Q := Q_; clear Q_
  go_wp2_with fail
  refine (ints_any _ _ _ _ K.i1 K.i0).mono ?_
  rintro e w11 ⟨rfl, hd⟩
  have bel := drewN_bel hd
  clear hd
  have K_ := K.step bel
  have P_ := P.below bel
  have Q_ := Q.below bel
  clear K P Q bel
  have K := K_; clear K_
  have P := P_; clear P_
  have Q := Q_; clear Q_
  have c77 := K.c77
  go_wp2_with fail
  have hA : 0 < n → ∃ b off, a0 = some ⟨b, off, none⟩ ∧ b < w.heap.size ∧ ∀ j, j < n → w11.cell? ⟨b, off + j, none⟩ = some (.int .i64 (h.getD j 0)) := fun h0 => arg_form Hn.out h0 HI0.out K.below
  have hO : ∀ j, j < n → w11.cell? ⟨g, j, none⟩ = some (.int .i64 (h.getD j 0)) := own_form Hn.out K.i1
  have HA := Lib.hid hA
  have hst := Lib.hid (Halved.start (f2 := fun j => wrap64 ((h.getD j 0).tdiv 2)) hO K.fz)
  have hgl : g < w11.heap.size := World.block_lt_of_cell? w11 ⟨g, n, none⟩ K.c77
  have Hgl := Lib.hid hgl
  have KK := Lib.hid K
  have PP := Lib.hid P
  have QQ := Lib.hid Q
  clear hA hO hgl K P Q c77
  go_loopw [21, 22] (fun tv i wr => ∃ (k : Nat) (v : Value), k ≤ n ∧ i = .int .i64 k ∧ v = tv ∧ Halved w11 wr v h (fun j => wrap64 ((h.getD j 0).tdiv 2)) g n k) (fun _ i _ => n - (intOf i).toNat)
  case atStart => exact ⟨0, _, Nat.zero_le _, rfl, rfl, hst.out⟩
  obtain ⟨k, v, hk, rfl, rfl, HV⟩ := hrel
  have HH := Lib.hid HV
  clear HV
  by_cases hlt : k < n
  case pos =>
    obtain ⟨b, off, rfl, hbw, hbc⟩ := HA.out (by omega)
    have cb : wr.cell? ⟨b, off + k, none⟩ = some (.int .i64 (h.getD k 0)) := HH.out.grown.cell (hbc k hlt) (by simp; omega)
    have i1 : k + 1 ≤ maxLen := by unfold maxLen; omega
    have i2 : (k + 1) * 8 ≤ 140737488355328 := by have := B4.out; omega
    have I1 := Lib.hid i1
    have I2 := Lib.hid i2
    have Z := Lib.hid HH.out.grown.size
    clear hbc i1 i2
    go_wp2_with (at_builtin; refine wpList_app1 _ rfl _ _ 36 rfl w11.heap.size 3 (.int .i64 0) 8 Try.underlying36 info3 rfl _ _ _ rfl (HH.out.own.alloc _) wr.heap.size _ rfl (cell1_new _ _ _) rfl I1.out I2.out (Nat.le_trans Z.out (size_alloc_le _ _)) ?_; intro v' w12 own' bel'; obtain ⟨t, cp, rfl, ht1, ht2, ht3, ht4, ht5, ht6⟩ := own_room own' (Nat.succ_pos _); have ct := ht5 k _ (get_last _ _ _); obtain ⟨cgk, fgk⟩ := HH.out.keeps Hgl.out bel'; have cg := keeps_cell HH.out cgk hlt; have fg := fgk k; have NX := Lib.hid (HH.out.next Hgl.out hlt own' bel'); clear own' bel' ht5 ht6 cgk fgk)
    exact ⟨⟨k + 1, _, by omega, by go_num, rfl, NX.out⟩, by simp [intOf]; omega⟩
  obtain rfl : n = k := by omega
  clear hlt hk hst HA
  have hL2 : (List.range n).map (fun j => Value.int .i64 (wrap64 ((h.getD j 0).tdiv 2))) = ((List.range n).map fun j => wrap64 ((h.getD j 0).tdiv 2)).map (Value.int .i64) := by simp
  obtain ⟨fa', fb', d, oa', ob', hS'⟩ := stats_any ((List.range n).map fun j => wrap64 ((h.getD j 0).tdiv 2))
  obtain ⟨m', f', d2, of', hT'⟩ := smooth_any ((List.range n).map fun j => wrap64 ((h.getD j 0).tdiv 2)) wt hwt
  obtain ⟨u0, r0, u1, r1, u2, r2, u3, r3, d3, hX', hR'⟩ := quarters_any ((List.range n).map fun j => wrap64 ((h.getD j 0).tdiv 2))
  have K2 := keep2_start (cap := cap) HH.out KK.out hg1 hn9
  have hzz := HH.out.grown.size
  have P := Blk.grown PP.out HH.out.grown (by omega)
  have Q := Blk.grown QQ.out HH.out.grown (by omega)
  have tne : ∀ x, x < w11.heap.size → v.ownBlock ≠ some x := fun x hx e => by have := (HH.out.own.lt x e).1; omega
  have hpl := PP.out.2.2
  have hql := QQ.out.2.2
  have tp := tne p hpl
  have hwp : w.heap.size ≤ p := by omega
  have hwq : w.heap.size ≤ q := by omega
  have hqp : q ≠ p := by omega
  have hpq' : p ≠ q := by omega
  have gp : (Value.slice (some ⟨g, 0, none⟩) n cap).ownBlock ≠ some p := by simp [Value.ownBlock]; omega
  have gq : (Value.slice (some ⟨g, 0, none⟩) n cap).ownBlock ≠ some q := by simp [Value.ownBlock]; omega
  have tq := tne q hql
  have S' := Lib.hid hS'
  have T' := Lib.hid hT'
  have R' := Lib.hid hR'
  have X' := Lib.hid hX'
  have Of' := Lib.hid of'
  have N1' := Lib.hid (fun w => number_c fa' fa' w oa')
  have N2' := Lib.hid (fun w => number_c fb' fb' w ob')
  clear hS' hT' hX' hR' of' oa' ob' hL2 PP QQ KK HH tne S T R X N1 N2 Of
  generalize ((List.range n).map fun j => wrap64 ((h.getD j 0).tdiv 2)) = h2 at *
  go_wp2_with fail
  refine ((S'.out _ _ K2.i1).1).mono ?_
  rintro e w' ⟨rfl, rfl⟩
  go_wp2_with fail
  refine ((S'.out _ _ K2.i0).2).mono ?_
  rintro e w' ⟨rfl, rfl⟩
  go_wp2_with fail
  have hpw := P.2.2
  have hqw := Q.2.2
  refine ((T'.out _ _ K2.i1).1).mono ?_
  rintro e w21 ⟨t1, rfl, F1, bel, g1⟩
  have n1 : ∀ x, x < wr.heap.size → t1.ownBlock ≠ some x := fun x hx e => by have := g1 x e; omega
  have n1p := n1 p hpw
  have n1q := n1 q hqw
  clear n1 g1
  have K2_ := K2.step bel
  have P_ := P.below bel
  have Q_ := Q.below bel
  clear K2 P Q bel
  have K2 := K2_; clear K2_
  have P := P_; clear P_
  have Q := Q_; clear Q_
  go_wp2_with fail
  have hpw' := P.2.2
  have hqw' := Q.2.2
  refine ((T'.out _ _ K2.i0).2).mono ?_
  rintro e w22 ⟨t2, rfl, F2, bel, g2⟩
  have n2 : ∀ x, x < w21.heap.size → t2.ownBlock ≠ some x := fun x hx e => by have := g2 x e; omega
  have n2p := n2 p hpw'
  have n2q := n2 q hqw'
  clear n2 g2
  have K2_ := K2.step bel
  have P_ := P.below bel
  have Q_ := Q.below bel
  have F1_ := F1.below bel
  clear K2 P Q F1 bel
  have K2 := K2_; clear K2_
  have P := P_; clear P_
  have Q := Q_; clear Q_
  have F1 := F1_; clear F1_
  go_wp2_with fail
  refine ((R'.out _ _ K2.i1).1).mono ?_
  rintro e w23 ⟨rfl, bel⟩
  have K2_ := K2.step bel
  have P_ := P.below bel
  have Q_ := Q.below bel
  have F1_ := F1.below bel
  have F2_ := F2.below bel
  clear K2 P Q F1 F2 bel
  have K2 := K2_; clear K2_
  have P := P_; clear P_
  have Q := Q_; clear Q_
  have F1 := F1_; clear F1_
  have F2 := F2_; clear F2_
  have p0 : w23.cell? ⟨p, 0, none⟩ = some (.complex .f64 x0 y0) := P.1 0 (by simp)
  have p1 : w23.cell? ⟨p, 1, none⟩ = some (.complex .f64 x1 y1) := P.1 1 (by simp)
  have p2 : w23.cell? ⟨p, 2, none⟩ = some (.complex .f64 x2 y2) := P.1 2 (by simp)
  have p3 : w23.cell? ⟨p, 3, none⟩ = some (.complex .f64 x3 y3) := P.1 3 (by simp)
  have pf := P.2.1
  go_wp2_with fail
  have P_ : Blk ((((w23.setCell ⟨p, 0, none⟩ (.complex .f64 u0 r0)).setCell ⟨p, 1, none⟩ (.complex .f64 u1 r1)).setCell ⟨p, 2, none⟩ (.complex .f64 u2 r2)).setCell ⟨p, 3, none⟩ (.complex .f64 u3 r3)) p [.complex .f64 u0 r0, .complex .f64 u1 r1, .complex .f64 u2 r2, .complex .f64 u3 r3] := (((P.over (by simp)).over (by simp)).over (by simp)).over (by simp)
  have Q_ : Blk ((((w23.setCell ⟨p, 0, none⟩ (.complex .f64 u0 r0)).setCell ⟨p, 1, none⟩ (.complex .f64 u1 r1)).setCell ⟨p, 2, none⟩ (.complex .f64 u2 r2)).setCell ⟨p, 3, none⟩ (.complex .f64 u3 r3)) q _ := (((Q.set hqp).set hqp).set hqp).set hqp
  have K2_ : Keep2 w ((((w23.setCell ⟨p, 0, none⟩ (.complex .f64 u0 r0)).setCell ⟨p, 1, none⟩ (.complex .f64 u1 r1)).setCell ⟨p, 2, none⟩ (.complex .f64 u2 r2)).setCell ⟨p, 3, none⟩ (.complex .f64 u3 r3)) _ _ _ := (((K2.set hwp tp gp).set hwp tp gp).set hwp tp gp).set hwp tp gp
  have F1_ : Floats ((((w23.setCell ⟨p, 0, none⟩ (.complex .f64 u0 r0)).setCell ⟨p, 1, none⟩ (.complex .f64 u1 r1)).setCell ⟨p, 2, none⟩ (.complex .f64 u2 r2)).setCell ⟨p, 3, none⟩ (.complex .f64 u3 r3)) _ _ _ := (((F1.set n1p).set n1p).set n1p).set n1p
  have F2_ : Floats ((((w23.setCell ⟨p, 0, none⟩ (.complex .f64 u0 r0)).setCell ⟨p, 1, none⟩ (.complex .f64 u1 r1)).setCell ⟨p, 2, none⟩ (.complex .f64 u2 r2)).setCell ⟨p, 3, none⟩ (.complex .f64 u3 r3)) _ _ _ := (((F2.set n2p).set n2p).set n2p).set n2p
  clear P Q K2 F1 F2 p0 p1 p2 p3 pf
  generalize (((w23.setCell ⟨p, 0, none⟩ (.complex .f64 u0 r0)).setCell ⟨p, 1, none⟩ (.complex .f64 u1 r1)).setCell ⟨p, 2, none⟩ (.complex .f64 u2 r2)).setCell ⟨p, 3, none⟩ (.complex .f64 u3 r3) = w24 at *
  have P := P_; clear P_
  have Q := Q_; clear Q_
  have K2 := K2_; clear K2_
  have F1 := F1_; clear F1_
  have F2 := F2_; clear F2_
  refine ((R'.out _ _ K2.i0).2).mono ?_
  rintro e w25 ⟨rfl, bel⟩
  have K2_ := K2.step bel
  have P_ := P.below bel
  have Q_ := Q.below bel
  have F1_ := F1.below bel
  have F2_ := F2.below bel
  clear K2 P Q F1 F2 bel
  have K2 := K2_; clear K2_
  have P := P_; clear P_
  have Q := Q_; clear Q_
  have F1 := F1_; clear F1_
  have F2 := F2_; clear F2_
  have q0 : w25.cell? ⟨q, 0, none⟩ = some (.float .f64 x0) := Q.1 0 (by simp)
  have q1 : w25.cell? ⟨q, 1, none⟩ = some (.float .f64 y0) := Q.1 1 (by simp)
  have q2 : w25.cell? ⟨q, 2, none⟩ = some (.float .f64 x1) := Q.1 2 (by simp)
  have q3 : w25.cell? ⟨q, 3, none⟩ = some (.float .f64 y1) := Q.1 3 (by simp)
  have q4 : w25.cell? ⟨q, 4, none⟩ = some (.float .f64 x2) := Q.1 4 (by simp)
  have q5 : w25.cell? ⟨q, 5, none⟩ = some (.float .f64 y2) := Q.1 5 (by simp)
  have q6 : w25.cell? ⟨q, 6, none⟩ = some (.float .f64 x3) := Q.1 6 (by simp)
  have q7 : w25.cell? ⟨q, 7, none⟩ = some (.float .f64 y3) := Q.1 7 (by simp)
  have qf := Q.2.1
  go_wp2_with fail
  have Q_ : Blk (((((((((w25.setCell ⟨q, 0, none⟩ (.float .f64 u0)).setCell ⟨q, 1, none⟩ (.float .f64 r0)).setCell ⟨q, 2, none⟩ (.float .f64 u1)).setCell ⟨q, 3, none⟩ (.float .f64 r1)).setCell ⟨q, 4, none⟩ (.float .f64 u2)).setCell ⟨q, 5, none⟩ (.float .f64 r2)).setCell ⟨q, 6, none⟩ (.float .f64 u3)).setCell ⟨q, 7, none⟩ (.float .f64 r3))) q [.float .f64 u0, .float .f64 r0, .float .f64 u1, .float .f64 r1, .float .f64 u2, .float .f64 r2, .float .f64 u3, .float .f64 r3] := (((((((Q.over (by simp)).over (by simp)).over (by simp)).over (by simp)).over (by simp)).over (by simp)).over (by simp)).over (by simp)
  have P_ : Blk (((((((((w25.setCell ⟨q, 0, none⟩ (.float .f64 u0)).setCell ⟨q, 1, none⟩ (.float .f64 r0)).setCell ⟨q, 2, none⟩ (.float .f64 u1)).setCell ⟨q, 3, none⟩ (.float .f64 r1)).setCell ⟨q, 4, none⟩ (.float .f64 u2)).setCell ⟨q, 5, none⟩ (.float .f64 r2)).setCell ⟨q, 6, none⟩ (.float .f64 u3)).setCell ⟨q, 7, none⟩ (.float .f64 r3))) p _ := (((((((P.set hpq').set hpq').set hpq').set hpq').set hpq').set hpq').set hpq').set hpq'
  have K2_ : Keep2 w (((((((((w25.setCell ⟨q, 0, none⟩ (.float .f64 u0)).setCell ⟨q, 1, none⟩ (.float .f64 r0)).setCell ⟨q, 2, none⟩ (.float .f64 u1)).setCell ⟨q, 3, none⟩ (.float .f64 r1)).setCell ⟨q, 4, none⟩ (.float .f64 u2)).setCell ⟨q, 5, none⟩ (.float .f64 r2)).setCell ⟨q, 6, none⟩ (.float .f64 u3)).setCell ⟨q, 7, none⟩ (.float .f64 r3))) _ _ _ := (((((((K2.set hwq tq gq).set hwq tq gq).set hwq tq gq).set hwq tq gq).set hwq tq gq).set hwq tq gq).set hwq tq gq).set hwq tq gq
  have F1_ : Floats (((((((((w25.setCell ⟨q, 0, none⟩ (.float .f64 u0)).setCell ⟨q, 1, none⟩ (.float .f64 r0)).setCell ⟨q, 2, none⟩ (.float .f64 u1)).setCell ⟨q, 3, none⟩ (.float .f64 r1)).setCell ⟨q, 4, none⟩ (.float .f64 u2)).setCell ⟨q, 5, none⟩ (.float .f64 r2)).setCell ⟨q, 6, none⟩ (.float .f64 u3)).setCell ⟨q, 7, none⟩ (.float .f64 r3))) _ _ _ := (((((((F1.set n1q).set n1q).set n1q).set n1q).set n1q).set n1q).set n1q).set n1q
  have F2_ : Floats (((((((((w25.setCell ⟨q, 0, none⟩ (.float .f64 u0)).setCell ⟨q, 1, none⟩ (.float .f64 r0)).setCell ⟨q, 2, none⟩ (.float .f64 u1)).setCell ⟨q, 3, none⟩ (.float .f64 r1)).setCell ⟨q, 4, none⟩ (.float .f64 u2)).setCell ⟨q, 5, none⟩ (.float .f64 r2)).setCell ⟨q, 6, none⟩ (.float .f64 u3)).setCell ⟨q, 7, none⟩ (.float .f64 r3))) _ _ _ := (((((((F2.set n2q).set n2q).set n2q).set n2q).set n2q).set n2q).set n2q).set n2q
  clear P Q K2 F1 F2 q0 q1 q2 q3 q4 q5 q6 q7 qf
  generalize ((((((((w25.setCell ⟨q, 0, none⟩ (.float .f64 u0)).setCell ⟨q, 1, none⟩ (.float .f64 r0)).setCell ⟨q, 2, none⟩ (.float .f64 u1)).setCell ⟨q, 3, none⟩ (.float .f64 r1)).setCell ⟨q, 4, none⟩ (.float .f64 u2)).setCell ⟨q, 5, none⟩ (.float .f64 r2)).setCell ⟨q, 6, none⟩ (.float .f64 u3)).setCell ⟨q, 7, none⟩ (.float .f64 r3)) = w26 at *
  refine (N1'.out _).mono ?_
  rintro e w' ⟨rfl, rfl⟩
  go_wp2_with fail
  refine (N2'.out _).mono ?_
  rintro e w' ⟨rfl, rfl⟩
  go_wp2_with fail
  refine (numbers_any _ _ _ _ _ F1_ F2_ Of'.out).mono ?_
  rintro e w27 ⟨rfl, hd⟩
  have bel := drewN_bel hd
  clear hd F1_ F2_
  have P := P_.below bel
  have Q := Q_.below bel
  have K2 := K2_.step bel
  clear P_ Q_ K2_ bel
  have p0 : w27.cell? ⟨p, 0, none⟩ = some (.complex .f64 u0 r0) := P.1 0 (by simp)
  have p1 : w27.cell? ⟨p, 1, none⟩ = some (.complex .f64 u1 r1) := P.1 1 (by simp)
  have p2 : w27.cell? ⟨p, 2, none⟩ = some (.complex .f64 u2 r2) := P.1 2 (by simp)
  have p3 : w27.cell? ⟨p, 3, none⟩ = some (.complex .f64 u3 r3) := P.1 3 (by simp)
  have q0 : w27.cell? ⟨q, 0, none⟩ = some (.float .f64 u0) := Q.1 0 (by simp)
  have q1 : w27.cell? ⟨q, 1, none⟩ = some (.float .f64 r0) := Q.1 1 (by simp)
  have q2 : w27.cell? ⟨q, 2, none⟩ = some (.float .f64 u1) := Q.1 2 (by simp)
  have q3 : w27.cell? ⟨q, 3, none⟩ = some (.float .f64 r1) := Q.1 3 (by simp)
  have q4 : w27.cell? ⟨q, 4, none⟩ = some (.float .f64 u2) := Q.1 4 (by simp)
  have q5 : w27.cell? ⟨q, 5, none⟩ = some (.float .f64 r2) := Q.1 5 (by simp)
  have q6 : w27.cell? ⟨q, 6, none⟩ = some (.float .f64 u3) := Q.1 6 (by simp)
  have q7 : w27.cell? ⟨q, 7, none⟩ = some (.float .f64 r3) := Q.1 7 (by simp)
  go_wp2_with fail
  refine (X'.out _).mono ?_
  rintro e w28 ⟨rfl, bel⟩
  clear p0 p1 p2 p3 q0 q1 q2 q3 q4 q5 q6 q7
  have K3 := K2.step bel
  have K4 := Lib.hid K3.below
  clear K2 K3 P Q bel
  go_wp2_with fail
  go_ret
  exact ⟨rfl, K4.out⟩
end Go.Proofs.Ytomcdnkafgmleaa
