/- What the walk of the law PlanWhole asks. -/
import Derived.Test.YtomcdnkafgmleaaW1
import Derived.Test.YtomcdnkafgmleaaQ8
namespace Go.Proofs.Ytomcdnkafgmleaa
open Go.RowKit

def ng (x : Nat) : Nat := x ^^^ 2 ^ 63
@[go_sem] theorem unary_negf (x : Nat) : Op.unary .neg (.float .f64 x) = pure (.float .f64 (ng x)) := rfl

theorem own_lit (w : World) (u : Value) : (w.alloc (.cells #[u] 3)).ownsRow w.heap.size 3 1 (.slice (some ⟨w.heap.size, 0, none⟩) 1 1) 1 [u] :=
  ⟨rfl, .inr ⟨w.heap.size, 1, #[u], rfl, Nat.le_refl _, by show (w.heap.push _)[w.heap.size]? = _; simp, Nat.le_refl _, by decide, rfl, rfl⟩⟩

theorem sum_bounds {f : Nat → Int} (hf : ∀ j, 0 ≤ f j ∧ f j ≤ 255) : ∀ k, 0 ≤ sumTo f k ∧ sumTo f k ≤ 255 * (k : Int)
  | 0 => by simp [sumTo]
  | k + 1 => by have := sum_bounds hf k; have := hf k; simp only [sumTo]; omega

/-- the list of the first n -/
def lst (f : Nat → Int) (n : Nat) : List Int := (List.range n).map f
theorem lst_len (f : Nat → Int) (n : Nat) : (lst f n).length = n := by simp [lst]
theorem lst_get (f : Nat → Int) (n k : Nat) (hk : k < n) : (lst f n).getD k 0 = f k := by simp [lst, List.getD_eq_getElem?_getD, hk]
theorem lst_vals (f : Nat → Int) (n : Nat) : (lst f n).map (Value.int .i64) = (List.range n).map fun j => Value.int .i64 (f j) := by simp [lst]
theorem lst_succ (f : Nat → Int) (n : Nat) : ((List.range (n + 1)).map fun j => Value.int .i64 (f j)) = ((List.range n).map fun j => Value.int .i64 (f j)) ++ [Value.int .i64 (f n)] := by rw [List.range_succ, List.map_append]; rfl
theorem lst_mem {f : Nat → Int} {n : Nat} (hf : ∀ j, 0 ≤ f j ∧ f j ≤ 255) : ∀ x ∈ lst f n, 0 ≤ x ∧ x ≤ 255 := by
  intro x hx
  obtain ⟨j, _, rfl⟩ := List.mem_map.1 hx
  exact hf j
theorem cons_mem {f : Nat → Int} {n : Nat} (hf : ∀ j, 0 ≤ f j ∧ f j ≤ 255) : ∀ x ∈ (0 : Int) :: lst f n, 0 ≤ x ∧ x ≤ 255 := by
  intro x hx
  rcases List.mem_cons.1 hx with rfl | h
  · omega
  · exact lst_mem hf x h
theorem cn_lst (f : Nat → Int) (n r : Nat) : ∀ k, k ≤ n → cn (fun i => (lst f n).getD i 0) r k = cn f r k
  | 0, _ => rfl
  | k + 1, h => by simp only [cn, cn_lst f n r k (by omega), lst_get f n k (by omega)]
theorem ints_lst {w : World} {base n : Nat} {v : Value} {f : Nat → Int} (h : w.ownsRow base 3 1 v n ((List.range n).map fun j => Value.int .i64 (f j))) (hn : n ≤ 9223372036854775807) : Ints w v (lst f n) := by
  rw [← lst_vals] at h
  exact ints_of_vals (own_vals h hn)
theorem rep_row (c : Int) (m : Nat) : lst (fun _ => c) m = List.replicate m c := by
  apply List.ext_getElem
  · simp [lst]
  · intro i h1 h2; simp [lst]
theorem ints_src {w : World} {v : Value} {h : List Int} (hv : Ints w v h) (hs : ∃ a cap, v = .slice a h.length cap) (h0 : v = .slice none 0 0 ∨ ∃ ad len cap, v = .slice (some ad) len cap) : Src w v (h.map (Value.int .i64)) := by
  rcases hv with ⟨a, cap, e, hx⟩ | ⟨b, off, cap, h1, hm, e, hc⟩
  · subst hx
    rcases h0 with e2 | ⟨ad, len, cap2, e2⟩
    · exact .inl ⟨e2, rfl⟩
    · rw [e2] at e; cases e; exact .inr (.inl ⟨ad, _, e2, rfl⟩)
  · refine .inr (.inr ⟨b, off, cap, by simpa using hm, by simpa using e, fun i hi => ?_⟩)
    have hi' : i < h.length := by simpa using hi
    rw [hc i hi']
    simp [List.getD_eq_getElem?_getD, List.getElem?_eq_getElem hi']

theorem neq_false {x y : Nat} (h : Ieee.double.order x y = some .eq) : (FloatKind.f64.format.order x y != some .eq) = false := by
  show (Ieee.double.order x y != some .eq) = false; rw [h]; rfl
theorem eql_true {x y : Nat} (h : Ieee.double.order x y = some .eq) : (FloatKind.f64.format.order x y == some .eq) = true := by
  show (Ieee.double.order x y == some .eq) = true; rw [h]; rfl

/-- what stays from call to call -/
structure KW (w0 w : World) (v : Value) (h : List Int) : Prop where
  below : Below w0.heap.size w0 w
  i0 : Ints w v h
theorem KW.step {w0 w w' : World} {v : Value} {h : List Int} (K : KW w0 w v h) (hb : Below w.heap.size w w') : KW w0 w' v h :=
  ⟨below_upto K.below hb, K.i0.below hb⟩

theorem floats_form {w : World} {s : Value} {n : Nat} {f : Nat → Nat} (h : Floats w s n f) : ∃ a cap, s = .slice a n cap := by
  rcases h with ⟨a, cap, rfl, rfl⟩ | ⟨b, off, cap, _, _, rfl, _⟩
  · exact ⟨_, _, rfl⟩
  · exact ⟨_, _, rfl⟩
theorem floats_cells {w : World} {a : Option Addr} {n cap : Nat} {f : Nat → Nat} (h : Floats w (.slice a n cap) n f) (h0 : 0 < n) : ∃ b off, a = some ⟨b, off, none⟩ ∧ b < w.heap.size ∧ ∀ i, i < n → w.cell? ⟨b, off + i, none⟩ = some (.float .f64 (f i)) := by
  rcases h with ⟨a', cap', e, hx⟩ | ⟨b, off, cap', h1, hm, e, hc⟩
  · omega
  · simp only [Value.slice.injEq] at e
    exact ⟨b, off, e.1, World.block_lt_of_cell? w ⟨b, off + 0, none⟩ (hc 0 h1), hc⟩
theorem ints_cells {w : World} {a : Option Addr} {n cap : Nat} {f : Nat → Int} (h : Ints w (.slice a n cap) (lst f n)) (h0 : 0 < n) : ∃ b off, a = some ⟨b, off, none⟩ ∧ b < w.heap.size ∧ ∀ i, i < n → w.cell? ⟨b, off + i, none⟩ = some (.int .i64 (f i)) := by
  rcases h with ⟨a', cap', e, hx⟩ | ⟨b, off, cap', h1, hm, e, hc⟩
  · have := congrArg List.length hx; rw [lst_len] at this; simp at this; omega
  · simp only [Value.slice.injEq] at e
    rw [lst_len] at hc h1
    exact ⟨b, off, e.1, World.block_lt_of_cell? w ⟨b, off + 0, none⟩ (hc 0 h1), fun i hi => by rw [hc i hi, lst_get f n i hi]⟩

/-- what the two Quarters say -/
theorem quarters_said (f : Nat → Int) (n : Nat) (hf : ∀ j, 0 ≤ f j ∧ f j ≤ 255) (hn : n ≤ 500) :
    ∃ x0 y0 x1 y1 x2 y2 x3 y3 u0 r0 u1 r1 u2 r2 u3 r3 : Nat,
      (FloatKind.f64.format.order x0 (floatOfInt .f64 (sumTo f n)) == some .eq) = true ∧ (FloatKind.f64.format.order y0 0 == some .eq) = true ∧
      (FloatKind.f64.format.order x3 x1 != some .eq) = false ∧ (FloatKind.f64.format.order y3 (ng y1) != some .eq) = false ∧ (FloatKind.f64.format.order y2 0 != some .eq) = false ∧
      (FloatKind.f64.format.order u1 y1 != some .eq) = false ∧ (FloatKind.f64.format.order r1 (ng x1) != some .eq) = false ∧ (FloatKind.f64.format.order u2 (ng x2) != some .eq) = false ∧
      (∀ v w, Ints w v (lst f n) → Calls Try.prog 26 #[v] w fun e w' => e = .returned (.tuple #[.agg #[.complex .f64 x0 y0, .complex .f64 x1 y1, .complex .f64 x2 y2, .complex .f64 x3 y3], .int .i64 0]) ∧ Below w.heap.size w w') ∧
      (∀ v w, Ints w v (0 :: lst f n) → Calls Try.prog 26 #[v] w fun e w' => e = .returned (.tuple #[.agg #[.complex .f64 u0 r0, .complex .f64 u1 r1, .complex .f64 u2 r2, .complex .f64 u3 r3], .int .i64 0]) ∧ Below w.heap.size w w') := by
  have q1 := fun v w hv => whole_quarters (lst f n) (lst_mem hf) (by rw [lst_len]; omega) v w hv
  have q2 := fun v w hv => whole_quarters (0 :: lst f n) (cons_mem hf) (by simp [lst_len]; omega) v w hv
  simp only [List.length_cons, lst_len, quartersP] at q1 q2
  simp only [cn_moved _ _ (by omega : 0 < 4), cn_moved _ _ (by omega : 1 < 4), cn_moved _ _ (by omega : 2 < 4), cn_moved _ _ (by omega : 3 < 4), Nat.reduceAdd, Nat.reduceMod] at q2
  simp only [cn_lst f n _ n (Nat.le_refl _)] at q1 q2
  refine ⟨_, _, _, _, _, _, _, _, _, _, _, _, _, _, _, _, ?_, ?_, ?_, ?_, ?_, ?_, ?_, ?_, q1, q2⟩
  · rw [cn_sum]; exact eql_true (int_order _)
  · exact eql_true (by decide +kernel)
  · exact neq_false (int_order _)
  · exact neq_false (F.neg_order _ _ (by omega))
  · exact neq_false (by decide +kernel)
  · exact neq_false (int_order _)
  · exact neq_false (F.neg_order _ _ (by omega))
  · exact neq_false (F.neg_order _ _ (by omega))
end Go.Proofs.Ytomcdnkafgmleaa
