/- Rows of numbers in memory of the call's own. -/
import Derived.Test.YtomcdnkafgmleaaU3
import Derived.Test.YtomcdnkafgmleaaG2
import Derived.Maps.AppendAt
import Derived.Deep.AppendLies
namespace Go.Proofs.Ytomcdnkafgmleaa
open Go.RowKit

structure Mat (base : Nat) (w : World) (v : Value) (m : Nat) (rows : List (Value × List Int)) : Prop where
  own : w.ownsRow base 36 1 v rows.length (rows.map Prod.fst)
  rd : ∀ r, r ∈ rows → ∃ b cap, r.1 = .slice (some ⟨b, 0, none⟩) m cap ∧ r.2.length = m ∧ b < w.heap.size ∧ v.ownBlock ≠ some b ∧ ∀ j, j < m → w.cell? ⟨b, j, none⟩ = some (.int .i64 (r.2.getD j 0))
  ok : ∀ r, r ∈ rows → r.2.all okF = true

theorem Mat.nil (base m : Nat) (w : World) : Mat base w (.slice none 0 0) m [] := ⟨World.ownsRow_nil w base 36 1, fun r h => by simp at h, fun r h => by simp at h⟩
theorem Mat.below {base : Nat} {w w' : World} {v : Value} {m : Nat} {rows : List (Value × List Int)} (h : Mat base w v m rows) (hb : Below w.heap.size w w') : Mat base w' v m rows :=
  ⟨own_below h.own hb, fun r hr => by
    obtain ⟨b, cap, e1, e2, hlt, hne, hc⟩ := h.rd r hr
    exact ⟨b, cap, e1, e2, Nat.lt_of_lt_of_le hlt hb.size, hne, fun j hj => by rw [hb.cell (p := ⟨b, j, none⟩) hlt]; exact hc j hj⟩, h.ok⟩
theorem Mat.add {base : Nat} {w1 w' : World} {v v' rv : Value} {m g cap : Nat} {rows : List (Value × List Int)} {ys : List Int} {o : Obj} (h : Mat base w1 v m rows) (hrv : rv = .slice (some ⟨g, 0, none⟩) m cap) (hl : ys.length = m) (hg : g < w1.heap.size) (hgv : v.ownBlock ≠ some g)
    (hc : ∀ j, j < m → w1.cell? ⟨g, j, none⟩ = some (.int .i64 (ys.getD j 0))) (hok : ys.all okF = true) (own' : w'.ownsRow base 36 1 v' (rows.length + 1) (rows.map Prod.fst ++ [rv])) (gr : (w1.alloc o).grownBy w' v.ownBlock)
    (hb : v'.ownBlock = v.ownBlock ∨ v'.ownBlock = some (w1.alloc o).heap.size) : Mat base w' v' m (rows ++ [(rv, ys)]) := by
  have hsz : (w1.alloc o).heap.size = w1.heap.size + 1 := by simp
  have key : ∀ b, b < w1.heap.size → v.ownBlock ≠ some b → b < w'.heap.size ∧ v'.ownBlock ≠ some b ∧ ∀ j, w'.cell? ⟨b, j, none⟩ = w1.cell? ⟨b, j, none⟩ := by
    intro b hlt hne
    have h1 : b < (w1.alloc o).heap.size := by rw [hsz]; omega
    refine ⟨Nat.lt_of_lt_of_le h1 gr.size, ?_, fun j => ?_⟩
    · rcases hb with e | e
      · rw [e]; exact hne
      · rw [e, hsz]; intro c; cases c; omega
    · rw [gr.cell_far ⟨b, j, none⟩ h1 (fun c => hne c.symm)]
      exact ((Below.refl _ w1).alloc (Nat.le_refl _) o).cell (p := ⟨b, j, none⟩) hlt
  refine ⟨by rw [List.length_append, List.map_append]; exact own', fun r hr => ?_, fun r hr => ?_⟩
  · rcases List.mem_append.1 hr with hr | hr
    · obtain ⟨b, cap, e1, e2, hlt, hne, hc⟩ := h.rd r hr
      obtain ⟨k1, k2, k3⟩ := key b hlt hne
      exact ⟨b, cap, e1, e2, k1, k2, fun j hj => by rw [k3]; exact hc j hj⟩
    · obtain rfl : r = (rv, ys) := by simpa using hr
      obtain ⟨k1, k2, k3⟩ := key g hg hgv
      exact ⟨g, cap, hrv, hl, k1, k2, fun j hj => by rw [k3]; exact hc j hj⟩
  · rcases List.mem_append.1 hr with hr | hr
    · exact h.ok r hr
    · obtain rfl : r = (rv, ys) := by simpa using hr
      exact hok

def rowsM (rows : List (Value × List Int)) (i : Nat) : List Int := (rows.getD i (.slice none 0 0, [])).2
theorem rowsM_mem {rows : List (Value × List Int)} {i : Nat} (h : i < rows.length) : ∃ r, r ∈ rows ∧ rowsM rows i = r.2 ∧ rows[i]? = some r := by
  refine ⟨rows[i], List.getElem_mem _, ?_, List.getElem?_eq_getElem h⟩
  unfold rowsM
  rw [List.getD_eq_getElem?_getD, List.getElem?_eq_getElem h]; rfl
theorem Mat.rows2 {base : Nat} {w : World} {v : Value} {m n : Nat} {rows : List (Value × List Int)} (h : Mat base w v m rows) (hn : rows.length = n) (h0 : 0 < n) (hm : n ≤ 4096) (hm2 : m ≤ 4096) : Rows2 w v n (rowsM rows) := by
  have hown := h.own
  rw [hn] at hown
  obtain ⟨g, cap, rfl, _, hlt, _, _, hc, _⟩ := own_room hown h0
  refine .inr ⟨g, 0, cap, h0, by omega, rfl, hlt, fun i hi => ?_⟩
  obtain ⟨r, hr, e, hg⟩ := rowsM_mem (rows := rows) (i := i) (by omega)
  obtain ⟨b, cap2, e1, e2, hlt2, _, hc2⟩ := h.rd r hr
  refine ⟨r.1, by rw [Nat.zero_add]; exact hc i r.1 (by rw [List.getElem?_map, hg]; rfl), ?_⟩
  rw [e]
  by_cases hm0 : m = 0
  · subst hm0; exact .inl ⟨_, _, e1, List.eq_nil_of_length_eq_zero e2⟩
  · exact .inr ⟨b, 0, cap2, by omega, by omega, by rw [e2]; exact e1, fun j hj => by rw [Nat.zero_add]; exact hc2 j (by omega)⟩
theorem Mat.good {base : Nat} {w : World} {v : Value} {n : Nat} {rows : List (Value × List Int)} (h : Mat base w v n rows) (hn : rows.length = n) : (∀ i, i < n → okRow n (rowsM rows i)) ∧ ∀ i, n ≤ i → rowsM rows i = [] := by
  refine ⟨fun i hi => ?_, fun i hi => ?_⟩
  · obtain ⟨r, hr, e, _⟩ := rowsM_mem (rows := rows) (i := i) (by omega)
    obtain ⟨b, cap2, _, e2, _⟩ := h.rd r hr
    rw [e]
    exact ⟨e2, h.ok r hr⟩
  · unfold rowsM
    rw [List.getD_eq_getElem?_getD, List.getElem?_eq_none (by omega)]; rfl

theorem info36 : (Try.prog.info? 36).map (fun i => (i.zero, i.size, i.bytes)) = some (some (.slice none 0 0), 1, 24) := by kernel_rfl
theorem wpList_appFar {P : Program} (w : World) {ops : Array Oper} {rest : List Oper} {o : Oper} {a : Act} {Q : Exit → Act → World → Prop} (hgd : o.guard = none) (s x : Operand) (t : TypeId)
    (ho : o.op = .call { callee := .builtin .append, args := #[s, x], argTypes := #[t, t] })
    (base : Nat) (e : TypeId) (z : Value) (bytes : Nat) (ht : P.underlying t = some (.slice e)) (hinfo : (P.info? e).map (fun i => (i.zero, i.size, i.bytes)) = some (some z, 1, bytes)) (hz : z.cells.size = 1)
    (v : Value) (n : Nat) (xs : List Value) (hs : a.eval s = v) (hown : w.ownsRow base e 1 v n xs) (g : Nat) (u : Value) (hx : a.eval x = .slice (some ⟨g, 0, none⟩) 1 1)
    (hcell : w.cell? ⟨g, 0, none⟩ = some u) (h1 : u.oneCell' = true) (h63 : n + 1 ≤ maxLen) (hbytes : (n + 1) * bytes ≤ 140737488355328) (hbase : base ≤ w.heap.size)
    (h : ∀ v' w', w'.ownsRow base e 1 v' (n + 1) (xs ++ [u]) → w.grownBy w' v.ownBlock → Below base w w' → (v'.ownBlock = v.ownBlock ∨ v'.ownBlock = some w.heap.size) → wpList P ops Q rest (a.put o.dst v') w') : wpList P ops Q (o :: rest) a w := by
  obtain ⟨i, hi, hz0, hz1, hz2⟩ := info_parts hinfo
  refine wpList_append_own_at w hgd s x t ho base e i z 1 bytes ht hi hz0 hz1 hz2 hz (by decide) v n xs hs hown ⟨g, 0, none⟩ 1 1 [u] hx rfl ?_ (by simpa using h1) h63 hbytes hbase ?_
  · intro j y hy
    cases j with
    | zero => simp at hy; subst hy; rw [addr_add]; exact hcell
    | succ j => simp at hy
  · intro v' w' h2 h3 _ h5
    exact h v' w' h2 h3 ((Below.refl _ _).grown h3 hbase (fun k hk => (hown.lt k hk).1)) h5

/-- the answer: the round, and how long it is -/
def ans (far : Nat → Nat → Int) (n : Nat) : List Int := if n = 1 then [0] else 0 :: tour far n (2 ^ n) 1 0
def ansM (far : Nat → Nat → Int) (n : Nat) : Int := if n = 1 then 0 else (T far n 1 0).1
theorem ans_order {far : Nat → Nat → Int} (hfar : ∀ i j, 0 ≤ far i j ∧ far i j ≤ 1000000000) {n : Nat} (hn : n ≤ 6) (hn1 : 1 ≤ n) :
    Order n (ans far n) ∧ (1 < n → longTo far (ans far n) n = ansM far n ∧ ∀ p, Order n p → ansM far n ≤ longTo far p n ∧ (ansM far n = longTo far p n → lexLt p (ans far n) = false)) := by
  by_cases h : n = 1
  · have e : ans far n = [0] := if_pos h
    rw [e]
    subst h
    exact ⟨ups_order (n := 1) (by omega), fun h => by omega⟩
  · have e1 : ans far n = 0 :: tour far n (2 ^ n) 1 0 := if_neg h
    have e2 : ansM far n = (T far n 1 0).1 := if_neg h
    obtain ⟨h1, h2, h3⟩ := tour_order hfar hn (by omega)
    rw [e1, e2]
    exact ⟨h1, fun _ => ⟨h2, h3⟩⟩
theorem trip_any (v : Value) (n : Nat) (M : Nat → List Int) (far : Nat → Nat → Int) (hfar : ∀ i j, far i j = (M i).getD j 0) (w : World) (hv : Rows2 w v n M) (h1 : 1 ≤ n) (hn : n ≤ 6) (hgood : ∀ i, i < n → okRow n (M i)) (hM : ∀ i, n ≤ i → M i = []) :
    Calls Try.prog 15 #[v] w fun e w' => ∃ l, e = .returned (.tuple #[l, .int .i64 (ansM far n), .int .i64 0]) ∧ Ints w' l (ans far n) ∧ Below w.heap.size w w' := by
  by_cases h : n = 1
  · have e1 : ans far n = [0] := if_pos h
    have e2 : ansM far n = 0 := if_pos h
    rw [e1, e2]
    subst h
    refine (trip_one v M w hv (hgood 0 (by omega))).mono ?_
    rintro e w' ⟨rfl, rfl⟩
    exact ⟨_, rfl, .inr ⟨w.heap.size, 0, 1, by simp, by simp, rfl, fun i hi => by
      obtain rfl : i = 0 := by simpa using hi
      simp⟩, (Below.refl _ _).alloc (Nat.le_refl _) _⟩
  · have e1 : ans far n = 0 :: tour far n (2 ^ n) 1 0 := if_neg h
    have e2 : ansM far n = (T far n 1 0).1 := if_neg h
    have hb : ∀ i j, 0 ≤ far i j ∧ far i j ≤ 1000000000 := fun i j => by rw [hfar]; exact far_bound hgood hM i j
    obtain ⟨ho, _, _⟩ := tour_order hb hn (by omega)
    rw [e1, e2]
    refine (trip_ok v n M far hfar w hv (by omega) (by omega) hgood hM).mono ?_
    rintro e w' ⟨l, rfl, own, bel⟩
    have hlen := ho.len
    refine ⟨l, rfl, ?_, bel⟩
    have hv := own_vals own (by omega)
    exact ints_of_vals hv

/-- which stops were met -/
def Seen (w : World) (P : Nat) (l : List Int) : Prop := (∀ q : Nat, q < 6 → w.cell? ⟨P, q, none⟩ = some (.bool (decide ((q : Int) ∈ l)))) ∧ (∀ i, w.frozen? ⟨P, i, none⟩ = false) ∧ P < w.heap.size
theorem Seen.start (w : World) : Seen (w.alloc (.cells #[.bool false, .bool false, .bool false, .bool false, .bool false, .bool false] 42)) w.heap.size [] :=
  ⟨fun q hq => by
    match q, hq with
    | 0, _ => simp
    | 1, _ => simp
    | 2, _ => simp
    | 3, _ => simp
    | 4, _ => simp
    | 5, _ => simp
    | q + 6, hq => omega, fun i => World.frozen?_alloc_at _ _ _ _ rfl, by simp⟩
theorem Seen.store {w : World} {P : Nat} {l : List Int} (h : Seen w P l) {q : Nat} (hq : q < 6) : Seen (w.setCell ⟨P, q, none⟩ (.bool true)) P (l ++ [(q : Int)]) := by
  refine ⟨fun i hi => ?_, fun i => by rw [World.frozen?_setCell]; exact h.2.1 i, by simp [World.setCell]; exact h.2.2⟩
  by_cases e : i = q
  · subst e
    rw [World.cell?_setCell_same _ _ _ (h.1 i hi)]; simp
  · rw [World.cell?_setCell_other _ _ _ _ (fun c => e (by simpa using c.symm)), h.1 i hi]
    have : (i : Int) ≠ (q : Int) := by omega
    simp [this]
theorem nodup_take {l : List Int} (h : l.Nodup) {i : Nat} (hi : i < l.length) : l.getD i 0 ∉ l.take i := by
  rw [List.getD_eq_getElem?_getD, List.getElem?_eq_getElem hi]
  intro hm
  obtain ⟨j, hj, e⟩ := List.mem_iff_getElem.1 hm
  rw [List.getElem_take] at e
  have hj' : j < i := by rw [List.length_take] at hj; omega
  exact (List.pairwise_iff_getElem.1 (List.nodup_iff_pairwise_ne.1 h)) j i (by omega) hi hj' e
theorem take_succ_getD (l : List Int) {i : Nat} (hi : i < l.length) : l.take (i + 1) = l.take i ++ [l.getD i 0] := by
  rw [List.take_succ_eq_append_getElem hi, List.getD_eq_getElem?_getD, List.getElem?_eq_getElem hi]; rfl
theorem Order.at {n : Nat} {p : List Int} (h : Order n p) {i : Nat} (hi : i < n) : ∃ q : Nat, p.getD i 0 = (q : Int) ∧ q < n := by
  have hi' : i < p.length := by rw [h.len]; exact hi
  have hm : p.getD i 0 ∈ p := by rw [List.getD_eq_getElem?_getD, List.getElem?_eq_getElem hi']; exact List.getElem_mem _
  obtain ⟨j, e, hj⟩ := (h.mem _).1 hm
  exact ⟨j, e, hj⟩
theorem ups_ints (w : World) (m : Nat) (h1 : 1 ≤ m) (h6 : m ≤ 6) : Ints (w.alloc (.cells #[.int .i64 0, .int .i64 1, .int .i64 2, .int .i64 3, .int .i64 4, .int .i64 5] 3)) (.slice (some ⟨w.heap.size, 0, none⟩) m 6) (ups m) := by
  have hl : (ups m).length = m := by simp [ups]
  refine .inr ⟨w.heap.size, 0, 6, by omega, by omega, by rw [hl], fun i hi => ?_⟩
  rw [hl] at hi
  have hg : (ups m).getD i 0 = (i : Int) := by
    simp [ups, List.getD_eq_getElem?_getD, hi]
  rw [hg]
  match i, hi with
  | 0, _ => simp
  | 1, _ => simp
  | 2, _ => simp
  | 3, _ => simp
  | 4, _ => simp
  | 5, _ => simp
  | i + 6, hi => omega
end Go.Proofs.Ytomcdnkafgmleaa
