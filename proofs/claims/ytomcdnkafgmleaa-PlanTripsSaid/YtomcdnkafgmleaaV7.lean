/- Opening rows of numbers that came in. -/
import Derived.Test.YtomcdnkafgmleaaV6
import Derived.Test.YtomcdnkafgmleaaO3
import Derived.Deep.Matrix
import Derived.OpenShut
namespace Go.Proofs.Ytomcdnkafgmleaa
open Go.ChangeShapes Go.WideShapes Go.ChangeAt Go.RowKit Go.Deep

theorem weightsAll_mem {H : Type} {P : Program} {e : TypeId} {x : Nat} : ∀ {l : List (DataW H)} {d : DataW H}, d ∈ l → x ∈ d.weights P e → x ∈ DataW.weightsAll P e l
  | d0 :: l, d, hd, hx => by
    simp only [DataW.weightsAll, List.mem_append]
    rcases List.mem_cons.1 hd with rfl | hd
    · exact .inl hx
    · exact .inr (weightsAll_mem hd hx)

theorem open_matrix {H : Type} {enc : TypeId × Value → H} {P : Program} {W : World} {r : Reach} {b : Nat} {t e q : TypeId} {v : Value} {d : DataW H} {p : List MemPlace} {ts : List TypeId} {ds : List (DataW H)} {j : Nat}
    (ht : P.underlying t = some (.slice e)) (he : P.underlying e = some (.slice q)) (hq : P.underlying q = some (.int .i64)) (ce : P.cellsOf e = 1) (cq : P.cellsOf q = 1) (be : P.bytesOf e = 24) (bq : P.bytesOf q = 8)
    (hval : Value.okWide P W r b t v) (hd : DataW.Trod enc P W 0 (fun _ => true) true t v d p) (hsz : (DataW.weightsEach P ts ds).all (· ≤ reachBytes) = true) (hj : ts[j]? = some t) (hjd : ds[j]? = some d) :
    ∃ (n : Nat) (M : Nat → List Int), Rows2 W v n M ∧ RowsS W v n M ∧ (∀ i, n ≤ i → M i = []) ∧ n * 24 ≤ 140737488351232 ∧ ∀ i, (M i).length * 8 ≤ 140737488351232 := by
  obtain ⟨a0, len, cap, rfl⟩ := okWide_slice ht hval
  obtain ⟨fuel, hf⟩ := hd
  rcases open_int_rows ht he hq ce cq hf with ⟨hcs, _⟩ | ⟨a, l, c, A, L, C, Z, hcs, _, hl, hm, hx, hrow⟩
  · simp [Value.cells] at hcs
    obtain ⟨rfl, rfl, rfl⟩ := hcs
    exact ⟨0, fun _ => [], .inl ⟨rfl, _, _, rfl⟩, fun i hi => by omega, fun _ _ => rfl, by simp, fun i => by simp⟩
  · simp [Value.cells] at hcs
    obtain ⟨rfl, rfl, rfl⟩ := hcs
    simp only [Prod.mk.injEq] at hx
    obtain ⟨rfl, _⟩ := hx
    have hr : reachBytes = 140737488351232 := rfl
    have hs := sized_slice hsz hj hjd ht
    rw [be, hr] at hs
    simp only [List.length_map, List.length_range] at hs
    have hcapb : cap ≤ 9223372036854775807 := by unfold maxLen at hm; exact hm
    have hn : len * 24 ≤ 140737488351232 := by omega
    have hrows : ∀ i, i < len → L i * 8 ≤ 140737488351232 ∧ L i ≤ C i := fun i hi => by
      obtain ⟨h1, h2, h3, h4, h5, h6, h7⟩ := hrow i (by omega)
      refine ⟨?_, h2⟩
      cases hA : A i with
      | none =>
        have := h6 hA
        omega
      | some a' =>
        have hmem : (L i + (C i - L i)) * 8 ∈ DataW.weightsEach P ts ds := by
          refine DataW.weights_mem_each hj hjd _ ?_
          simp only [DataW.weights, ht]
          refine List.mem_cons_of_mem _ (List.mem_append_left _ (weightsAll_mem (d := intRow .i64 (A i) (L i) (Z i)) (List.mem_map.2 ⟨i, List.mem_range.2 hi, rfl⟩) ?_))
          rw [hA]
          simp only [intRow, DataW.weights, he, bq]
          simp only [lits, List.length_map, List.length_take, List.length_drop, h4, List.mem_cons]
          left
          rw [Nat.min_eq_left h2]
        have := List.all_eq_true.1 hsz _ hmem
        simp only [decide_eq_true_eq] at this
        rw [hr] at this
        omega
    refine ⟨len, fun i => if i < len then (Z i).take (L i) else [], ?_, ?_, fun i hi => if_neg (by omega), hn, fun i => ?_⟩
    · by_cases h0 : len = 0
      · exact .inl ⟨h0, _, _, by rw [h0]⟩
      · obtain ⟨ab, aoff, spot⟩ := a
        have hspot : spot = none := by simpa [Addr.add] using World.cell?_spot (hrow 0 (by omega)).1
        subst hspot
        have hc0 := (hrow 0 (by omega)).1
        rw [addr_add] at hc0
        refine .inr ⟨ab, aoff, cap, by omega, by omega, rfl, World.block_lt_of_cell? W ⟨ab, aoff + 0, none⟩ hc0, fun i hi => ?_⟩
        obtain ⟨h1, h2, h3, h4, h5, h6, h7⟩ := hrow i (by omega)
        rw [addr_add] at h1
        refine ⟨_, h1, ?_⟩
        simp only [if_pos hi]
        have htl : ((Z i).take (L i)).length = L i := by rw [List.length_take]; omega
        by_cases hl0 : L i = 0
        · exact .inl ⟨_, _, by rw [hl0], by rw [hl0]; rfl⟩
        · cases hA : A i with
          | none => have := h6 hA; omega
          | some a' =>
            obtain ⟨gb, goff, gs⟩ := a'
            have hc := (h7 _ hA).2
            have hgs : gs = none := by simpa [Addr.add] using World.cell?_spot (hc 0 (by omega))
            subst hgs
            have h3' := h3
            unfold maxLen at h3'
            refine .inr ⟨gb, goff, C i, by omega, by omega, by rw [htl], fun jj hjj => ?_⟩
            have hjj' : jj < L i := by omega
            have := hc jj (by omega)
            rw [addr_add] at this
            rw [this]
            simp [List.getD_eq_getElem?_getD, hjj']
    · intro i hi
      obtain ⟨ab, aoff, spot⟩ := a
      have hspot : spot = none := by simpa [Addr.add] using World.cell?_spot (hrow 0 (by omega)).1
      subst hspot
      obtain ⟨h1, h2, h3, h4, h5, h6, h7⟩ := hrow i (by omega)
      rw [addr_add] at h1
      refine ⟨ab, aoff, cap, _, rfl, World.block_lt_of_cell? W ⟨ab, aoff + i, none⟩ h1, h1, ?_⟩
      simp only [if_pos hi]
      have htl : ((Z i).take (L i)).length = L i := by rw [List.length_take]; omega
      cases hA : A i with
      | none =>
        have hC := h6 hA
        have hL0 : L i = 0 := by omega
        exact .inl ⟨by rw [hC, hL0], by rw [hL0]; rfl⟩
      | some a' =>
        by_cases hl0 : L i = 0
        · exact .inr (.inl ⟨_, _, by rw [hl0], by rw [hl0]; rfl⟩)
        · obtain ⟨gb, goff, gs⟩ := a'
          have hc := (h7 _ hA).2
          have hgs : gs = none := by simpa [Addr.add] using World.cell?_spot (hc 0 (by omega))
          subst hgs
          have h3' := h3
          unfold maxLen at h3'
          refine .inr (.inr ⟨gb, goff, C i, by rw [List.length_map, htl]; omega, by rw [List.length_map, htl], fun jj hjj => ?_⟩)
          rw [List.length_map, htl] at hjj
          have := hc jj (by omega)
          rw [addr_add] at this
          rw [this, List.getElem?_map, List.getElem?_take, if_pos hjj, List.getD_eq_getElem?_getD, List.getElem?_eq_getElem (by omega)]; rfl
    · by_cases hi : i < len
      · simp only [if_pos hi]
        have := hrows i hi
        rw [List.length_take]
        omega
      · simp only [if_neg hi]; simp
end Go.Proofs.Ytomcdnkafgmleaa
