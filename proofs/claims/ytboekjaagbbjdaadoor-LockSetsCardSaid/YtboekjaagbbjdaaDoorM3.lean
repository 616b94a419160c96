/- Sets of stripes for all keys; lists compared; two texts appended. -/
import Derived.Test.YtboekjaagbbjdaaDoorM2
import Derived.Test.YtboekjaagbbjdaaDoorL8
import Derived.Laws.AppendOwnNone
namespace Go.Proofs.YtboekjaagbbjdaaDoor
open Go.RowKit Go.Lib Go.Sort

theorem refTo_nil (n : Nat) : ∀ k, refTo [] n k = []
  | 0 => rfl
  | k + 1 => by unfold refTo; rw [refTo_nil n k]; rfl
def setF (ks : List ByteArray) (n : Int) : List Int := if 1 ≤ n ∧ n ≤ 64 then refTo ks n.toNat n.toNat else []
theorem Ints.below {w w' : World} {v : Value} {xs : List Int} (h : Ints w v xs) (hb : Below w.heap.size w w') : Ints w' v xs := by
  rcases h with h | ⟨b, off, cap, h0, hm, rfl, hbl, hc⟩
  · exact .inl h
  · exact .inr ⟨b, off, cap, h0, hm, rfl, Nat.lt_of_lt_of_le hbl hb.size, fun i hi => by rw [hb.cell (p := ⟨b, off + i, none⟩) hbl]; exact hc i hi⟩

theorem set5_any (v : Value) (ks : List ByteArray) (n : Int) (w : World) (ht : Tab w) (h0 : 0 < w.heap.size) (hv : Texts w v ks) :
    Calls Tryd.prog 5 #[v, .int .i64 n] w fun e w' => ∃ v', e = .returned v' ∧ Ints w' v' (setF ks n) ∧ Below w.heap.size w w' := by
  by_cases h : 1 ≤ n ∧ n ≤ 64
  · have e : setF ks n = refTo ks n.toNat n.toNat := if_pos h
    have hs := set_ref ks n.toNat (by omega)
    rw [e]
    rcases hv with ⟨a, cap, rfl, rfl⟩ | ⟨b, off, cap, hL, hm, rfl, hb, hc⟩
    · refine (set5_none a cap n w h.1 h.2).mono ?_
      rintro e' w' ⟨rfl, rfl⟩
      exact ⟨_, rfl, .inl ⟨_, _, rfl, refTo_nil _ _⟩, Below.refl _ _⟩
    · refine (set5_row b off cap ks n w ht h0 hm hb h.1 h.2 hc).mono ?_
      rintro e' w' ⟨v', rfl, own, bel⟩
      rw [hs] at own
      refine ⟨_, rfl, ints_own own (by have := refTo_len ks n.toNat n.toNat; omega), bel⟩
  · have e : setF ks n = [] := if_neg h
    rw [e]
    refine (set5_bad v n w (by omega)).mono ?_
    rintro e' w' ⟨rfl, rfl⟩
    exact ⟨_, rfl, .inl ⟨_, _, rfl, rfl⟩, Below.refl _ _⟩

theorem ref6_bad (v : Value) (n : Int) (w : World) (h : n < 1 ∨ 64 < n) : Calls Tryd.prog 6 #[v, .int .i64 n] w fun e w' => e = .returned (.slice none 0 0) ∧ w = w' := by
  rcases h with h | h
  · go_enter Tryd.func6, Tryd.ntmps6
    go_wp2_with fail
    go_ret
    exact ⟨rfl, rfl⟩
  · have h' : ¬ n < 1 := by omega
    go_enter Tryd.func6, Tryd.ntmps6
    go_wp2_with fail
    go_ret
    exact ⟨rfl, rfl⟩
set_option maxHeartbeats 1000000 in
theorem ref6_none (a : Option Addr) (cap m : Nat) (w : World) (h1 : 1 ≤ m) (h2 : m ≤ 64) : Calls Tryd.prog 6 #[.slice a 0 cap, .int .i64 m] w fun e w' => e = .returned (.slice none 0 0) ∧ w = w' := by
  have hb2 : (decide ((m : Int) < 1) || decide (64 < (m : Int))) = false := by simp; omega
  go_enter Tryd.func6, Tryd.ntmps6
  go_wp2_with fail
  go_loop [5, 6] (fun v i => ∃ k : Nat, k ≤ m ∧ i = .int .i64 k ∧ v = .slice none 0 0) (fun _ i => m - (intOf i).toNat)
  case atStart => exact ⟨0, Nat.zero_le _, rfl, rfl⟩
  obtain ⟨k, hk, rfl, rfl⟩ := hrel
  by_cases hkm : k < m
  case pos =>
    go_wp2_with fail
    refine wp_loop_rounds 1 ?_
    rw [rounds_succ]
    go_wp2_with fail
    go_round
    case rel => exact ⟨k + 1, by omega, by go_num, rfl⟩
    case measure => simp [intOf]; omega
  obtain rfl : m = k := by omega
  go_wp2_with fail
  go_ret
  exact ⟨rfl, rfl⟩
theorem ref6_any (v : Value) (ks : List ByteArray) (n : Int) (w : World) (hv : Texts w v ks) :
    Calls Tryd.prog 6 #[v, .int .i64 n] w fun e w' => ∃ v', e = .returned v' ∧ Ints w' v' (setF ks n) ∧ Below w.heap.size w w' := by
  by_cases h : 1 ≤ n ∧ n ≤ 64
  · have e : setF ks n = refTo ks n.toNat n.toNat := if_pos h
    rw [e]
    obtain ⟨m, rfl⟩ : ∃ m : Nat, n = m := ⟨n.toNat, by omega⟩
    rw [Int.toNat_natCast]
    rcases hv with ⟨a, cap, rfl, rfl⟩ | ⟨b, off, cap, hL, hm, rfl, hb, hc⟩
    · refine (ref6_none a cap m w (by omega) (by omega)).mono ?_
      rintro e' w' ⟨rfl, rfl⟩
      exact ⟨_, rfl, .inl ⟨_, _, rfl, refTo_nil m m⟩, Below.refl _ _⟩
    · refine (ref6_row b off cap ks m w hL hm hb (by omega) (by omega) hc).mono ?_
      rintro e' w' ⟨v', rfl, own, bel⟩
      exact ⟨_, rfl, ints_own own (by have := refTo_len ks m m; omega), bel⟩
  · have e : setF ks n = [] := if_neg h
    rw [e]
    refine (ref6_bad v n w (by omega)).mono ?_
    rintro e' w' ⟨rfl, rfl⟩
    exact ⟨_, rfl, .inl ⟨_, _, rfl, rfl⟩, Below.refl _ _⟩

set_option maxHeartbeats 1000000 in
theorem same7_row (b off cap b' off' cap' len : Nat) (f : Nat → Int) (w : World) (hm : len ≤ 9223372036854775807)
    (hc : ∀ i, i < len → w.cell? ⟨b, off + i, none⟩ = some (.int .i64 (f i))) (hc' : ∀ i, i < len → w.cell? ⟨b', off' + i, none⟩ = some (.int .i64 (f i))) :
    Calls Tryd.prog 7 #[.slice (some ⟨b, off, none⟩) len cap, .slice (some ⟨b', off', none⟩) len cap'] w fun e w' => e = .returned (.bool true) ∧ Below w.heap.size w w' := by
  have Hc := Lib.hid hc
  have Hc' := Lib.hid hc'
  clear hc hc'
  go_enter Tryd.func7, Tryd.ntmps7
  go_wp2_with fail
  go_loopw [5] (fun i wr => ∃ (k n : Nat), k ≤ len ∧ i = .int .i64 k ∧ wr = w.drewN n) (fun i _ => len - (intOf i).toNat)
  case atStart => exact ⟨0, 0, Nat.zero_le _, rfl, rfl⟩
  obtain ⟨k, n, hk, rfl, rfl⟩ := hrel
  by_cases hlt : k < len
  · have c := Hc.out k hlt
    have c' := Hc'.out k hlt
    have hl2 : (k : Int) < (len : Int) := by omega
    have hl3 : (0 : Int) ≤ (k : Int) := by omega
    go_wp2_with fail
    go_quiet (fail)
    go_wp2_with fail
    go_roundw
    case rel => exact ⟨k + 1, _, by omega, by go_num, rfl⟩
    case measure => simp [intOf]; omega
  · go_wp2
    go_ret
    exact ⟨rfl, below_drewN (Below.refl _ _) _⟩
theorem same7_none (a a' : Option Addr) (cap cap' : Nat) (w : World) : Calls Tryd.prog 7 #[.slice a 0 cap, .slice a' 0 cap'] w fun e w' => e = .returned (.bool true) ∧ Below w.heap.size w w' := by
  go_enter Tryd.func7, Tryd.ntmps7
  go_wp2_with fail
  refine wp_loop_rounds 1 ?_
  rw [rounds_succ]
  go_wp2_with fail
  go_ret
  exact ⟨rfl, Below.refl _ _⟩
theorem same7 (v v' : Value) (xs : List Int) (w : World) (hv : Ints w v xs) (hv' : Ints w v' xs) : Calls Tryd.prog 7 #[v, v'] w fun e w' => e = .returned (.bool true) ∧ Below w.heap.size w w' := by
  rcases hv with ⟨a, cap, rfl, rfl⟩ | ⟨b, off, cap, h0, hm, rfl, _, hc⟩
  · rcases hv' with ⟨a', cap', rfl, _⟩ | ⟨b', off', cap', h0', _⟩
    · exact same7_none a a' cap cap' w
    · simp at h0'
  · rcases hv' with ⟨a', cap', _, rfl⟩ | ⟨b', off', cap', _, _, rfl, _, hc'⟩
    · simp at h0
    · exact same7_row b off cap b' off' cap' xs.length (fun i => xs.getD i 0) w hm hc hc'

/-- a slice that came in, or is nil, read as a list of one-cell values -/
def Src (w : World) (v : Value) (xs : List Value) : Prop :=
  (v = .slice none 0 0 ∧ xs = []) ∨ (∃ ad cap, v = .slice (some ad) 0 cap ∧ xs = []) ∨ (∃ b off cap, xs.length ≤ 9223372036854775807 ∧ v = .slice (some ⟨b, off, none⟩) xs.length cap ∧ ∀ i, i < xs.length → w.cell? ⟨b, off + i, none⟩ = xs[i]?)
theorem wpList_appSrc {P : Program} (w : World) {ops : Array Oper} {rest : List Oper} {o : Oper} {a : Act} {Q : Exit → Act → World → Prop} (hgd : o.guard = none) (s x : Operand) (t : TypeId)
    (ho : o.op = .call { callee := .builtin .append, args := #[s, x], argTypes := #[t, t] })
    (base : Nat) (e : TypeId) (z : Value) (bytes : Nat) (ht : P.underlying t = some (.slice e)) (hinfo : (P.info? e).map (fun i => (i.zero, i.size, i.bytes)) = some (some z, 1, bytes)) (hz : z.cells.size = 1)
    (v : Value) (n : Nat) (xs : List Value) (hs : a.eval s = v) (hown : w.ownsRow base e 1 v n xs) (sv : Value) (ys : List Value) (hx : a.eval x = sv) (hsrc : Src w sv ys)
    (h1 : ∀ u ∈ ys, u.oneCell' = true) (h63 : n + ys.length ≤ maxLen) (hbytes : (n + ys.length) * bytes ≤ 140737488355328) (hbase : base ≤ w.heap.size)
    (h : ∀ v' w', w'.ownsRow base e 1 v' (n + ys.length) (xs ++ ys) → Below base w w' → wpList P ops Q rest (a.put o.dst v') w') : wpList P ops Q (o :: rest) a w := by
  obtain ⟨i, hi, hz0, hz1, hz2⟩ := info_parts hinfo
  rcases hsrc with ⟨rfl, rfl⟩ | ⟨ad, cap, rfl, rfl⟩ | ⟨b, off, cap, hl, rfl, hc⟩
  · refine wpList_append_own_none hgd s x t ho base e i 1 ht hi v n xs hs hown hx ?_
    exact h v w (by simpa using hown) (Below.refl _ _)
  · refine wpList_append_own w hgd s x t ho base e i z 1 bytes ht hi hz0 hz1 hz2 hz (by decide) v n xs hs hown ad 0 cap [] hx (by simp) (fun j y hy => by simp at hy) h1 h63 hbytes hbase ?_
    intro v' w' h2 h3 _
    exact h v' w' (by simpa using h2) ((Below.refl _ _).grown h3 hbase (fun k hk => (hown.lt k hk).1))
  · refine wpList_append_own w hgd s x t ho base e i z 1 bytes ht hi hz0 hz1 hz2 hz (by decide) v n xs hs hown ⟨b, off, none⟩ ys.length cap ys hx (by simp) ?_ h1 h63 hbytes hbase ?_
    · intro j y hy
      rw [addr_add, hc j (List.getElem?_eq_some_iff.1 hy).1]; exact hy
    · intro v' w' h2 h3 _
      exact h v' w' h2 ((Below.refl _ _).grown h3 hbase (fun k hk => (hown.lt k hk).1))
theorem src_two (w : World) (u0 u1 : Value) (e : TypeId) : Src (w.alloc (.cells #[u0, u1] e)) (.slice (some ⟨w.heap.size, 0, none⟩) 2 2) [u0, u1] :=
  .inr (.inr ⟨w.heap.size, 0, 2, by simp, rfl, fun i hi => by
    match i, hi with
    | 0, _ => simp
    | 1, _ => simp
    | i + 2, hi => simp at hi; omega⟩)
theorem own_room {w : World} {base : Nat} {e : TypeId} {v : Value} {n : Nat} {xs : List Value} (h : w.ownsRow base e 1 v n xs) (h0 : 0 < n) :
    ∃ g cap, v = .slice (some ⟨g, 0, none⟩) n cap ∧ base ≤ g ∧ g < w.heap.size ∧ n ≤ cap ∧ cap ≤ 9223372036854775807 ∧ (∀ i u, xs[i]? = some u → w.cell? ⟨g, i, none⟩ = some u) := by
  rcases h.2 with ⟨rfl, rfl⟩ | ⟨g, cap, cur, rfl, hb, hg, hnc, hcm, hcs, ht⟩
  · omega
  · refine ⟨g, cap, rfl, hb, (h.lt g rfl).2, hnc, by unfold maxLen at hcm; omega, fun i u hu => ?_⟩
    have hc := h.cells (g := g) rfl i u hu
    rw [← hc, addr_add, Nat.zero_add]
theorem info9 : (Tryd.prog.info? 9).map (fun i => (i.zero, i.size, i.bytes)) = some (some (.string ByteArray.empty), 1, 16) := by kernel_rfl
end Go.Proofs.YtboekjaagbbjdaaDoor
