/- Slices of legs: one leg appended to a slice of the call's own; how it reads. -/
import Derived.Test.YtomcdnkafgmleaaA1
import Derived.Test.YtomcdnkafgmleaaT5
namespace Go.Proofs.Ytomcdnkafgmleaa
open Go.RowKit

theorem wpList_app2 {P : Program} (w : World) {ops : Array Oper} {rest : List Oper} {o : Oper} {a : Act} {Q : Exit → Act → World → Prop} (hgd : o.guard = none) (s x : Operand) (t : TypeId)
    (ho : o.op = .call { callee := .builtin .append, args := #[s, x], argTypes := #[t, t] })
    (base : Nat) (e : TypeId) (z : Value) (bytes : Nat) (ht : P.underlying t = some (.slice e)) (hinfo : (P.info? e).map (fun i => (i.zero, i.size, i.bytes)) = some (some z, 2, bytes)) (hz : z.cells.size = 2)
    (v : Value) (n : Nat) (xs : List Value) (hs : a.eval s = v) (hown : w.ownsRow base e 2 v n xs) (g : Nat) (u0 u1 : Value) (hx : a.eval x = .slice (some ⟨g, 0, none⟩) 1 1)
    (hc0 : w.cell? ⟨g, 0, none⟩ = some u0) (hc1 : w.cell? ⟨g, 1, none⟩ = some u1) (h0 : u0.oneCell' = true) (h1 : u1.oneCell' = true) (h63 : n + 1 ≤ maxLen) (hbytes : (n + 1) * bytes ≤ 140737488355328) (hbase : base ≤ w.heap.size)
    (h : ∀ v' w', w'.ownsRow base e 2 v' (n + 1) (xs ++ [u0, u1]) → Below base w w' → wpList P ops Q rest (a.put o.dst v') w') : wpList P ops Q (o :: rest) a w := by
  obtain ⟨i, hi, hz0, hz1, hz2⟩ := info_parts hinfo
  refine wpList_append_own w hgd s x t ho base e i z 2 bytes ht hi hz0 hz1 hz2 hz (by decide) v n xs hs hown ⟨g, 0, none⟩ 1 1 [u0, u1] hx rfl ?_ (by simp [h0, h1]) h63 hbytes hbase ?_
  · intro j y hy
    rw [addr_add, Nat.zero_add]
    match j, hy with
    | 0, hy => simp at hy; subst hy; exact hc0
    | 1, hy => simp at hy; subst hy; exact hc1
    | j + 2, hy => simp at hy
  · intro v' w' h2 h3 _
    exact h v' w' h2 ((Below.refl _ _).grown h3 hbase (fun k hk => (hown.lt k hk).1))

theorem own_below_any {w w' : World} {base size : Nat} {e : TypeId} {v : Value} {n : Nat} {xs : List Value} (h : w.ownsRow base e size v n xs) (hb : Below w.heap.size w w') : w'.ownsRow base e size v n xs := by
  refine ⟨h.1, ?_⟩
  rcases h.2 with hn | ⟨g, cap, cur, rfl, hbb, hgg, rest⟩
  · exact .inl hn
  · exact .inr ⟨g, cap, cur, rfl, hbb, (hb.block g (Array.getElem?_eq_some_iff.1 hgg).1).trans hgg, rest⟩

/-- the cells of legs -/
def legCells : List (Int × Int) → List Value
  | [] => []
  | p :: l => .int .i64 p.1 :: .int .i64 p.2 :: legCells l
theorem legCells_append (a b : List (Int × Int)) : legCells (a ++ b) = legCells a ++ legCells b := by
  induction a with
  | nil => rfl
  | cons p l ih => simp [legCells, ih]
theorem legCells_get : ∀ (l : List (Int × Int)) (i : Nat), i < l.length → (legCells l)[i * 2]? = some (.int .i64 (l.getD i (0, 0)).1) ∧ (legCells l)[i * 2 + 1]? = some (.int .i64 (l.getD i (0, 0)).2)
  | [], i, h => by simp at h
  | p :: l, 0, _ => ⟨rfl, rfl⟩
  | p :: l, i + 1, h => by
    have ih := legCells_get l i (by simpa using h)
    rw [show (i + 1) * 2 = i * 2 + 1 + 1 by omega]
    simp only [legCells, List.getElem?_cons_succ, List.getD_cons_succ]
    exact ih

/-- an owned row of legs reads as legs -/
theorem legs_own {w : World} {base : Nat} {e : TypeId} {v : Value} {ls : List (Int × Int)} (h : w.ownsRow base e 2 v ls.length (legCells ls)) (h0 : 0 < ls.length) (hl : ls.length ≤ 4096) : Legs w v ls := by
  rcases h.2 with ⟨rfl, hn⟩ | ⟨g, cap, cur, rfl, hb, hg, hnc, hcm, hcs, ht⟩
  · omega
  · refine ⟨g, 0, cap, h0, hl, (Array.getElem?_eq_some_iff.1 hg).1, rfl, fun i hi => ?_⟩
    obtain ⟨c1, c2⟩ := legCells_get ls i hi
    have d1 := h.cells (g := g) rfl _ _ c1
    have d2 := h.cells (g := g) rfl _ _ c2
    rw [addr_add] at d1 d2
    exact ⟨d1, by rw [Nat.add_assoc]; exact d2⟩

/-- the ways so far, and one more stop -/
theorem ways_succ (far : Nat → Nat → Int) (t : Nat → Nat → Int × Int) (j s a : Nat) : ways far t (j + 1) s a = ways far t j s a ++ (if s / 2 ^ j % 2 = 0 then [(far a j + (t (s + 2 ^ j) j).1, (j : Int))] else []) := by
  unfold ways
  rw [List.range_succ, List.filter_append, List.map_append]
  congr 1
  by_cases h : s / 2 ^ j % 2 = 0
  · simp [h]
  · simp [h]
theorem ways_len (far : Nat → Nat → Int) (t : Nat → Nat → Int × Int) (s a : Nat) : ∀ j, (ways far t j s a).length ≤ j
  | 0 => by simp [ways]
  | j + 1 => by
    rw [ways_succ, List.length_append]
    have := ways_len far t s a j
    by_cases h : s / 2 ^ j % 2 = 0
    · rw [if_pos h]; simp; omega
    · rw [if_neg h]; simp; omega
end Go.Proofs.Ytomcdnkafgmleaa
