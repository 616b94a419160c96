/- One element appended to a slice of the call's own; what stays below; slices that read as lists. -/
import Derived.WalkKit
import Derived.Lib.Hide
import Derived.LoopTactic
namespace Go.Proofs.Ytomcdnkafgmleaa
open Go.RowKit

theorem cell1_new (w : World) (u : Value) (e : TypeId) : (w.alloc (.cells #[u] e)).cell? ⟨w.heap.size, 0, none⟩ = some u := by simp

theorem size_alloc_le (w : World) (o : Obj) : w.heap.size ≤ (w.alloc o).heap.size := by simp
/-- behind one block more and what came then -/
theorem below_alloc1 {B : Nat} {w w1 : World} {o : Obj} (hB : B ≤ w.heap.size) (h : Below B (w.alloc o) w1) : Below B w w1 := ((Below.refl _ _).alloc hB _).trans h

theorem addr_add (g o j : Nat) : (⟨g, o, none⟩ : Addr).add j = ⟨g, o + j, none⟩ := by unfold Addr.add; split <;> simp_all

theorem wpList_app1 {P : Program} (w : World) {ops : Array Oper} {rest : List Oper} {o : Oper} {a : Act} {Q : Exit → Act → World → Prop} (hgd : o.guard = none) (s x : Operand) (t : TypeId)
    (ho : o.op = .call { callee := .builtin .append, args := #[s, x], argTypes := #[t, t] })
    (base : Nat) (e : TypeId) (z : Value) (bytes : Nat) (ht : P.underlying t = some (.slice e)) (hinfo : (P.info? e).map (fun i => (i.zero, i.size, i.bytes)) = some (some z, 1, bytes)) (hz : z.cells.size = 1)
    (v : Value) (n : Nat) (xs : List Value) (hs : a.eval s = v) (hown : w.ownsRow base e 1 v n xs) (g : Nat) (u : Value) (hx : a.eval x = .slice (some ⟨g, 0, none⟩) 1 1)
    (hcell : w.cell? ⟨g, 0, none⟩ = some u) (h1 : u.oneCell' = true) (h63 : n + 1 ≤ maxLen) (hbytes : (n + 1) * bytes ≤ 140737488355328) (hbase : base ≤ w.heap.size)
    (h : ∀ v' w', w'.ownsRow base e 1 v' (n + 1) (xs ++ [u]) → Below base w w' → wpList P ops Q rest (a.put o.dst v') w') : wpList P ops Q (o :: rest) a w := by
  obtain ⟨i, hi, hz0, hz1, hz2⟩ := info_parts hinfo
  refine wpList_append_own w hgd s x t ho base e i z 1 bytes ht hi hz0 hz1 hz2 hz (by decide) v n xs hs hown ⟨g, 0, none⟩ 1 1 [u] hx rfl ?_ (by simpa using h1) h63 hbytes hbase ?_
  · intro j y hy
    cases j with
    | zero => simp at hy; subst hy; rw [addr_add]; exact hcell
    | succ j => simp at hy
  · intro v' w' h2 h3 _
    exact h v' w' h2 ((Below.refl _ _).grown h3 hbase (fun k hk => (hown.lt k hk).1))

/-- a slice of one-cell elements reads as a list of values: it is empty, or leads to a row of cells -/
def Vals (w : World) (v : Value) (xs : List Value) : Prop :=
  (∃ a cap, v = .slice a 0 cap ∧ xs = []) ∨
  (∃ b off cap, 0 < xs.length ∧ xs.length ≤ 9223372036854775807 ∧ v = .slice (some ⟨b, off, none⟩) xs.length cap ∧ ∀ i, i < xs.length → w.cell? ⟨b, off + i, none⟩ = xs[i]?)

theorem own_vals {w : World} {base : Nat} {e : TypeId} {v : Value} {n : Nat} {xs : List Value} (h : w.ownsRow base e 1 v n xs) (hn : n ≤ 9223372036854775807) : Vals w v xs := by
  have hl : xs.length = n := by have := h.1; omega
  rcases h.2 with ⟨rfl, rfl⟩ | ⟨g, cap, cur, rfl, hb, hg, hnc, hcm, hcs, ht⟩
  · exact .inl ⟨none, 0, rfl, List.eq_nil_of_length_eq_zero hl⟩
  · by_cases h0 : n = 0
    · subst h0
      exact .inl ⟨_, _, rfl, List.eq_nil_of_length_eq_zero hl⟩
    · refine .inr ⟨g, 0, cap, by omega, by omega, by rw [hl], fun i hi => ?_⟩
      have hc := h.cells (g := g) rfl i xs[i] (by rw [List.getElem?_eq_getElem hi])
      rw [List.getElem?_eq_getElem hi, ← hc, addr_add]

/-- the block of an owned row, where it is not empty -/
theorem own_block {w : World} {base : Nat} {e : TypeId} {v : Value} {n : Nat} {xs : List Value} (h : w.ownsRow base e 1 v n xs) (h0 : 0 < n) :
    ∃ g cap, v = .slice (some ⟨g, 0, none⟩) n cap ∧ base ≤ g ∧ g < w.heap.size ∧ (∀ i u, xs[i]? = some u → w.cell? ⟨g, i, none⟩ = some u) ∧ (∀ i, w.frozen? ⟨g, i, none⟩ = false) := by
  rcases h.2 with ⟨rfl, rfl⟩ | ⟨g, cap, cur, rfl, hb, hg, hnc, hcm, hcs, ht⟩
  · omega
  · refine ⟨g, cap, rfl, hb, (h.lt g rfl).2, fun i u hu => ?_, fun i => ?_⟩
    · have hc := h.cells (g := g) rfl i u hu
      rw [← hc, addr_add, Nat.zero_add]
    · simp only [World.frozen?, hg]
      simp

theorem ints_of_vals {w : World} {v : Value} {h : List Int} (hv : Vals w v (h.map (Value.int .i64))) :
    (∃ a cap, v = .slice a 0 cap ∧ h = []) ∨ (∃ b off cap, 0 < h.length ∧ h.length ≤ 9223372036854775807 ∧ v = .slice (some ⟨b, off, none⟩) h.length cap ∧ ∀ i, i < h.length → w.cell? ⟨b, off + i, none⟩ = some (.int .i64 (h.getD i 0))) := by
  rcases hv with ⟨a, cap, e, hx⟩ | ⟨b, off, cap, h0, hm, e, hc⟩
  · exact .inl ⟨a, cap, e, by simpa using hx⟩
  · refine .inr ⟨b, off, cap, by simpa using h0, by simpa using hm, by simpa using e, fun i hi => ?_⟩
    rw [hc i (by simpa using hi)]
    simp [List.getD_eq_getElem?_getD, List.getElem?_eq_getElem hi]
end Go.Proofs.Ytomcdnkafgmleaa
