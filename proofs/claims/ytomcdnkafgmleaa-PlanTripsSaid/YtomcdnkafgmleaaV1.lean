/- The document's table in memory. -/
import Derived.Test.YtomcdnkafgmleaaU4
import Derived.Deep.OwnRows
namespace Go.Proofs.Ytomcdnkafgmleaa
open Go.RowKit

structure TR (w0 w : World) (p n N : Nat) (far : Nat → Nat → Int) (made s k : Nat) : Prop where
  below : Below w0.heap.size w0 w
  old : w0.heap.size ≤ p
  size : w.heap.size = p + 1 + made
  fzp : ∀ i, w.frozen? ⟨p, i, none⟩ = false
  exp : ∀ i, i < N → ∃ u, w.cell? ⟨p, i, none⟩ = some u
  row : ∀ s', s' < made → w.cell? ⟨p, s', none⟩ = some (.slice (some ⟨p + 1 + s', 0, none⟩) n n)
  fzr : ∀ s' i, s' < made → w.frozen? ⟨p + 1 + s', i, none⟩ = false
  exr : ∀ s' j, s' < made → j < n → ∃ u, w.cell? ⟨p + 1 + s', j, none⟩ = some u
  val : ∀ s' j, j < n → s' < made → (s' < s ∨ s' = s ∧ j < k) → w.cell? ⟨p + 1 + s', j, none⟩ = some (.int .i64 (R far n s' j))

theorem made_get (z : Value) (n i : Nat) (h : i < n) : (madeCells #[z] n)[i]? = some z := by simp [madeCells, h, Nat.mod_one]
theorem made_cell (w : World) (z : Value) (n i : Nat) (t : TypeId) (h : i < n) : (w.alloc (.cells (madeCells #[z] n) t)).cell? ⟨w.heap.size, i, none⟩ = some z := by
  simp only [World.cell?_alloc_at]
  have := made_get z n i h
  simpa using this
theorem TR.start (w : World) (n N : Nat) (far : Nat → Nat → Int) : TR w (w.alloc (.cells (madeCells #[.slice none 0 0] N) 36)) w.heap.size n N far 0 0 0 :=
  ⟨bel_alloc _ _, Nat.le_refl _, by simp, fun i => World.frozen?_alloc_at _ _ _ _ rfl, fun i hi => ⟨_, made_cell _ _ _ _ _ hi⟩, fun s' h => by omega, fun s' i h => by omega, fun s' j h => by omega, fun s' j _ h => by omega⟩
theorem TR.drewN {w0 w : World} {p n N : Nat} {far : Nat → Nat → Int} {made s k : Nat} (h : TR w0 w p n N far made s k) (m : Nat) : TR w0 (w.drewN m) p n N far made s k :=
  ⟨below_drewN h.below m, h.old, h.size, h.fzp, h.exp, h.row, h.fzr, h.exr, h.val⟩
theorem TR.make {w0 w : World} {p n N : Nat} {far : Nat → Nat → Int} {s : Nat} (h : TR w0 w p n N far s s 0) (hs : s < N) :
    TR w0 ((w.alloc (.cells (madeCells #[.int .i64 0] n) 3)).setCell ⟨p, s, none⟩ (.slice (some ⟨w.heap.size, 0, none⟩) n n)) p n N far (s + 1) s 0 := by
  have hsz := h.size
  have hp : p < w.heap.size := by omega
  have ha := bel_alloc w (.cells (madeCells #[.int .i64 0] n) 3)
  have far' : ∀ b i, b ≠ p → ((w.alloc (.cells (madeCells #[.int .i64 0] n) 3)).setCell ⟨p, s, none⟩ (.slice (some ⟨w.heap.size, 0, none⟩) n n)).cell? ⟨b, i, none⟩ = (w.alloc (.cells (madeCells #[.int .i64 0] n) 3)).cell? ⟨b, i, none⟩ := fun b i hb => World.cell?_setCell_other _ _ _ _ (fun c => hb (by have := congrArg Addr.block c; exact this.symm))
  refine ⟨(h.below.trans (ha.mono h.below.size)).setCell h.old _, h.old, by simp [World.setCell]; omega, fun i => by rw [World.frozen?_setCell, ha.frozen (p := ⟨p, i, none⟩) hp]; exact h.fzp i, fun i hi => ?_, fun s' hs' => ?_, fun s' i hs' => ?_, fun s' j hs' hj => ?_, fun s' j hj hs' hor => ?_⟩
  · by_cases e : i = s
    · subst e
      obtain ⟨u, hu⟩ := h.exp i hi
      exact ⟨_, World.cell?_setCell_same (u := u) _ _ _ (by rw [ha.cell (p := ⟨p, i, none⟩) hp]; exact hu)⟩
    · obtain ⟨u, hu⟩ := h.exp i hi
      exact ⟨u, by rw [World.cell?_setCell_other _ _ _ _ (fun c => e (by simpa using c.symm)), ha.cell (p := ⟨p, i, none⟩) hp]; exact hu⟩
  · by_cases e : s' = s
    · subst e
      obtain ⟨u, hu⟩ := h.exp s' hs
      rw [← hsz]
      exact World.cell?_setCell_same (u := u) _ _ _ (by rw [ha.cell (p := ⟨p, s', none⟩) hp]; exact hu)
    · rw [World.cell?_setCell_other _ _ _ _ (fun c => e (by simpa using c.symm)), ha.cell (p := ⟨p, s', none⟩) hp]
      exact h.row s' (by omega)
  · rw [World.frozen?_setCell]
    by_cases e : s' = s
    · subst e; rw [← hsz]; exact World.frozen?_alloc_at _ _ _ _ rfl
    · rw [ha.frozen (p := ⟨p + 1 + s', i, none⟩) (by show p + 1 + s' < _; omega)]; exact h.fzr s' i (by omega)
  · rw [far' _ _ (by omega)]
    by_cases e : s' = s
    · subst e; rw [← hsz]; exact ⟨_, made_cell _ _ _ _ _ hj⟩
    · rw [ha.cell (p := ⟨p + 1 + s', j, none⟩) (by show p + 1 + s' < _; omega)]; exact h.exr s' j (by omega) hj
  · rw [far' _ _ (by omega), ha.cell (p := ⟨p + 1 + s', j, none⟩) (by show p + 1 + s' < _; omega)]
    exact h.val s' j hj (by omega) hor
theorem TR.scratch {w0 w : World} {p n N : Nat} {far : Nat → Nat → Int} {s k : Nat} (h : TR w0 w p n N far (s + 1) s k) (hk : k < n) (v : Value) : TR w0 (w.setCell ⟨p + 1 + s, k, none⟩ v) p n N far (s + 1) s k := by
  have hold := h.old
  have oth : ∀ b i, (b ≠ p + 1 + s ∨ i ≠ k) → (w.setCell ⟨p + 1 + s, k, none⟩ v).cell? ⟨b, i, none⟩ = w.cell? ⟨b, i, none⟩ := fun b i hb => World.cell?_setCell_other _ _ _ _ (fun c => by
    have c1 := congrArg Addr.block c
    have c2 := congrArg Addr.off c
    simp at c1 c2
    omega)
  refine ⟨h.below.setCell (by show _ ≤ p + 1 + s; omega) _, h.old, by simp [World.setCell]; exact h.size, fun i => by rw [World.frozen?_setCell]; exact h.fzp i, fun i hi => by rw [oth p i (.inl (by omega))]; exact h.exp i hi, fun s' hs' => by rw [oth p s' (.inl (by omega))]; exact h.row s' hs', fun s' i hs' => by rw [World.frozen?_setCell]; exact h.fzr s' i hs', fun s' j hs' hj => ?_, fun s' j hj hs' hor => ?_⟩
  · by_cases e : s' = s ∧ j = k
    · obtain ⟨rfl, rfl⟩ := e
      obtain ⟨u, hu⟩ := h.exr s' j hs' hj
      exact ⟨_, World.cell?_setCell_same (u := u) _ _ _ hu⟩
    · rw [oth _ _ (by omega)]; exact h.exr s' j hs' hj
  · rw [oth _ _ (by omega)]; exact h.val s' j hj hs' hor
theorem TR.store {w0 w : World} {p n N : Nat} {far : Nat → Nat → Int} {s k : Nat} (h : TR w0 w p n N far (s + 1) s k) (hk : k < n) : TR w0 (w.setCell ⟨p + 1 + s, k, none⟩ (.int .i64 (R far n s k))) p n N far (s + 1) s (k + 1) := by
  have h2 := h.scratch hk (.int .i64 (R far n s k))
  refine ⟨h2.below, h2.old, h2.size, h2.fzp, h2.exp, h2.row, h2.fzr, h2.exr, fun s' j hj hs' hor => ?_⟩
  by_cases e : s' = s ∧ j = k
  · obtain ⟨rfl, rfl⟩ := e
    obtain ⟨u, hu⟩ := h.exr s' j hs' hj
    exact World.cell?_setCell_same (u := u) _ _ _ hu
  · exact h2.val s' j hj hs' (by omega)
theorem TR.next {w0 w : World} {p n N : Nat} {far : Nat → Nat → Int} {s : Nat} (h : TR w0 w p n N far (s + 1) s n) : TR w0 w p n N far (s + 1) (s + 1) 0 :=
  ⟨h.below, h.old, h.size, h.fzp, h.exp, h.row, h.fzr, h.exr, fun s' j hj hs' _ => h.val s' j hj hs' (by omega)⟩
end Go.Proofs.Ytomcdnkafgmleaa
