/- The table in memory. -/
import Derived.Test.YtomcdnkafgmleaaT3
import Derived.Test.YtomcdnkafgmleaaT5
namespace Go.Proofs.Ytomcdnkafgmleaa
open Go.RowKit

def isZ : Value → Bool
  | .int .i64 n => n == 0
  | _ => false
def allZ : List Value → Bool
  | [] => true
  | v :: l => match isZ v with | true => allZ l | false => false
set_option maxRecDepth 1000000 in
theorem zero_size : Try.zeroCells104.size = 98304 := by kernel_rfl
set_option maxRecDepth 1000000 in
theorem zero_all : allZ Try.zeroCells104.toList = true := by kernel_rfl
theorem allZ_get : ∀ (l : List Value), allZ l = true → ∀ i, i < l.length → ∃ u, l[i]? = some u
  | [], _, i, hi => by simp at hi
  | v :: l, h, 0, _ => ⟨v, rfl⟩
  | v :: l, h, i + 1, hi => by
    simp only [allZ] at h
    have h2 : allZ l = true := by
      cases hz : isZ v
      · rw [hz] at h; simp at h
      · rw [hz] at h; exact h
    obtain ⟨u, hu⟩ := allZ_get l h2 i (by simpa using hi)
    exact ⟨u, by simpa using hu⟩
theorem new_table (w : World) (i : Nat) (hi : i < 98304) : ∃ u, (w.alloc (.cells Try.zeroCells104 104)).cell? ⟨w.heap.size, i, none⟩ = some u := by
  have hs := zero_size
  have h1 : i < Try.zeroCells104.toList.length := by rw [Array.length_toList, hs]; exact hi
  obtain ⟨u, hu⟩ := allZ_get _ zero_all i h1
  refine ⟨u, ?_⟩
  generalize Try.zeroCells104 = Z at *
  simp only [World.cell?_alloc_at]
  rw [← hu]; simp

/-- the table as far as it is filled: the sets above s, and of s itself the stops below k -/
structure TB (w0 w : World) (p n : Nat) (t : Nat → Nat → Int × Int) (s k : Nat) : Prop where
  below : Below w0.heap.size w0 w
  old : w0.heap.size ≤ p
  lt : p < w.heap.size
  fz : ∀ i, w.frozen? ⟨p, i, none⟩ = false
  all : ∀ i, i < 98304 → ∃ u, w.cell? ⟨p, i, none⟩ = some u
  val : ∀ s' a, s' < 2 ^ n → a < n → s' % 2 = 1 → s' / 2 ^ a % 2 = 1 → (s < s' ∨ s' = s ∧ a < k) →
    w.cell? ⟨p, s' * 24 + a * 2, none⟩ = some (.int .i64 (t s' a).1) ∧ w.cell? ⟨p, s' * 24 + a * 2 + 1, none⟩ = some (.int .i64 (t s' a).2)

theorem TB.start (w : World) (n : Nat) (t : Nat → Nat → Int × Int) : TB w (w.alloc (.cells Try.zeroCells104 104)) w.heap.size n t (2 ^ n - 1) 0 :=
  ⟨bel_alloc _ _, Nat.le_refl _, by simp, fun i => World.frozen?_alloc_at _ _ _ _ rfl, new_table w, fun s' a h1 _ _ _ h => by omega⟩
theorem TB.step {w0 w w' : World} {p n : Nat} {t : Nat → Nat → Int × Int} {s k : Nat} (h : TB w0 w p n t s k) (hb : Below w.heap.size w w') : TB w0 w' p n t s k :=
  ⟨below_upto h.below hb, h.old, Nat.lt_of_lt_of_le h.lt hb.size, fun i => by rw [hb.frozen (p := ⟨p, i, none⟩) h.lt]; exact h.fz i,
    fun i hi => by obtain ⟨u, hu⟩ := h.all i hi; exact ⟨u, by rw [hb.cell (p := ⟨p, i, none⟩) h.lt]; exact hu⟩,
    fun s' a h1 h2 h3 h4 h5 => by
      obtain ⟨c1, c2⟩ := h.val s' a h1 h2 h3 h4 h5
      exact ⟨by rw [hb.cell (p := ⟨p, _, none⟩) h.lt]; exact c1, by rw [hb.cell (p := ⟨p, _, none⟩) h.lt]; exact c2⟩⟩
theorem TB.skip {w0 w : World} {p n : Nat} {t : Nat → Nat → Int × Int} {s k : Nat} (h : TB w0 w p n t s k) (hs : s % 2 = 0 ∨ s / 2 ^ k % 2 = 0) : TB w0 w p n t s (k + 1) :=
  ⟨h.below, h.old, h.lt, h.fz, h.all, fun s' a h1 h2 h3 h4 h5 => h.val s' a h1 h2 h3 h4 (by
    rcases h5 with h5 | ⟨rfl, h5⟩
    · exact .inl h5
    · by_cases e : a = k
      · subst e; omega
      · exact .inr ⟨rfl, by omega⟩)⟩
theorem TB.next {w0 w : World} {p n : Nat} {t : Nat → Nat → Int × Int} {s : Nat} (h : TB w0 w p n t (s + 1) n) : TB w0 w p n t s 0 :=
  ⟨h.below, h.old, h.lt, h.fz, h.all, fun s' a h1 h2 h3 h4 h5 => h.val s' a h1 h2 h3 h4 (by
    by_cases e : s' = s + 1
    · exact .inr ⟨e, h2⟩
    · exact .inl (by omega))⟩
theorem TB.store {w0 w : World} {p n : Nat} {t : Nat → Nat → Int × Int} {s k : Nat} (h : TB w0 w p n t s k) (hs : s < 2 ^ n) (hn : n ≤ 12) (hk : k < n) :
    TB w0 ((w.setCell ⟨p, s * 24 + k * 2, none⟩ (.int .i64 (t s k).1)).setCell ⟨p, s * 24 + k * 2 + 1, none⟩ (.int .i64 (t s k).2)) p n t s (k + 1) := by
  have hN : 2 ^ n ≤ 2 ^ 12 := Nat.pow_le_pow_right (by omega) hn
  have h12 : (2 : Nat) ^ 12 = 4096 := by decide
  have hex : ∀ i, i < 98304 → ∃ u, ((w.setCell ⟨p, s * 24 + k * 2, none⟩ (.int .i64 (t s k).1)).setCell ⟨p, s * 24 + k * 2 + 1, none⟩ (.int .i64 (t s k).2)).cell? ⟨p, i, none⟩ = some u := by
    intro i hi
    obtain ⟨u, hu⟩ := h.all i hi
    have h1 : ∃ u, (w.setCell ⟨p, s * 24 + k * 2, none⟩ (.int .i64 (t s k).1)).cell? ⟨p, i, none⟩ = some u := by
      by_cases e : i = s * 24 + k * 2
      · subst e; exact ⟨_, World.cell?_setCell_same _ _ _ hu⟩
      · exact ⟨u, by rw [World.cell?_setCell_other _ _ _ _ (fun h => e (by simpa using h.symm))]; exact hu⟩
    obtain ⟨u1, hu1⟩ := h1
    by_cases e : i = s * 24 + k * 2 + 1
    · subst e; exact ⟨_, World.cell?_setCell_same _ _ _ hu1⟩
    · exact ⟨u1, by rw [World.cell?_setCell_other _ _ _ _ (fun h => e (by simpa using h.symm))]; exact hu1⟩
  refine ⟨(h.below.setCell h.old _).setCell h.old _, h.old, by simp [World.setCell]; exact h.lt, fun i => by rw [World.frozen?_setCell, World.frozen?_setCell]; exact h.fz i, hex, fun s' a h1 h2 h3 h4 h5 => ?_⟩
  by_cases e : s' = s ∧ a = k
  · obtain ⟨rfl, rfl⟩ := e
    obtain ⟨u, hu⟩ := h.all (s' * 24 + a * 2) (by omega)
    obtain ⟨u2, hu2⟩ := h.all (s' * 24 + a * 2 + 1) (by omega)
    refine ⟨?_, ?_⟩
    · rw [World.cell?_setCell_other _ _ _ _ (fun h => by simp at h)]
      exact World.cell?_setCell_same _ _ _ hu
    · refine World.cell?_setCell_same (u := u2) _ _ _ ?_
      rw [World.cell?_setCell_other _ _ _ _ (fun h => by simp at h)]
      exact hu2
  · obtain ⟨c1, c2⟩ := h.val s' a h1 h2 h3 h4 (by
      rcases h5 with h5 | ⟨rfl, h5⟩
      · exact .inl h5
      · exact .inr ⟨rfl, by omega⟩)
    have ne : ∀ x y, x ≠ y → (⟨p, x, none⟩ : Addr) ≠ ⟨p, y, none⟩ := fun x y h e => h (congrArg Addr.off e)
    have n1 := ne (s * 24 + k * 2) (s' * 24 + a * 2) (by omega)
    have n2 := ne (s * 24 + k * 2 + 1) (s' * 24 + a * 2) (by omega)
    have n3 := ne (s * 24 + k * 2) (s' * 24 + a * 2 + 1) (by omega)
    have n4 := ne (s * 24 + k * 2 + 1) (s' * 24 + a * 2 + 1) (by omega)
    exact ⟨by rw [World.cell?_setCell_other _ _ _ _ n2, World.cell?_setCell_other _ _ _ _ n1]; exact c1, by rw [World.cell?_setCell_other _ _ _ _ n4, World.cell?_setCell_other _ _ _ _ n3]; exact c2⟩
end Go.Proofs.Ytomcdnkafgmleaa
