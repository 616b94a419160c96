/- Two lists of the same rows; the rows written over; rows turned. -/
import Derived.Test.YtomcdnkafgmleaaV4
namespace Go.Proofs.Ytomcdnkafgmleaa
open Go.RowKit

abbrev Rw := Nat × Nat × List Int
def lv (r : Rw) : Value := .slice (some ⟨r.1, 0, none⟩) r.2.2.length r.2.1
def fv (r : Rw) : Value := .slice (some ⟨r.1, 0, none⟩) (r.2.2.length + 1) r.2.1

theorem gr_block {w w' : World} {ob : Option Nat} (gr : w.grownBy w' ob) {b : Nat} (h : b < w.heap.size) (hne : ob ≠ some b) : w'.heap[b]? = w.heap[b]? := gr.block b h (fun e => hne e.symm)
theorem gr_cell {w w' : World} {ob : Option Nat} (gr : w.grownBy w' ob) {b : Nat} (h : b < w.heap.size) (hne : ob ≠ some b) (i : Nat) : w'.cell? ⟨b, i, none⟩ = w.cell? ⟨b, i, none⟩ := World.cell?_of_block (gr_block gr h hne)
theorem gr_frozen {w w' : World} {ob : Option Nat} (gr : w.grownBy w' ob) {b : Nat} (h : b < w.heap.size) (hne : ob ≠ some b) (i : Nat) : w'.frozen? ⟨b, i, none⟩ = w.frozen? ⟨b, i, none⟩ := World.frozen?_of_block (gr_block gr h hne)
theorem own_kept {w w' : World} {base n : Nat} {e : TypeId} {v : Value} {xs : List Value} {ob : Option Nat} (h : w.ownsRow base e 1 v n xs) (gr : w.grownBy w' ob) (hne : ∀ b, v.ownBlock = some b → ob ≠ some b) : w'.ownsRow base e 1 v n xs := by
  refine ⟨h.1, ?_⟩
  rcases h.2 with hn | ⟨g, cap, cur, rfl, hbb, hgg, rest⟩
  · exact .inl hn
  · exact .inr ⟨g, cap, cur, rfl, hbb, (gr_block gr (Array.getElem?_eq_some_iff.1 hgg).1 (hne g rfl)).trans hgg, rest⟩
theorem al_own {w : World} {base n : Nat} {e : TypeId} {v : Value} {xs : List Value} (h : w.ownsRow base e 1 v n xs) (o : Obj) : (w.alloc o).ownsRow base e 1 v n xs := own_below h (bel_alloc w o)

structure Two (base : Nat) (w : World) (vl vf : Value) (rows : List Rw) : Prop where
  ownl : w.ownsRow base 36 1 vl rows.length (rows.map lv)
  ownf : w.ownsRow base 36 1 vf rows.length (rows.map fv)
  sep : ∀ b, vl.ownBlock = some b → vf.ownBlock ≠ some b
  rd : ∀ r, r ∈ rows → base ≤ r.1 ∧ r.1 < w.heap.size ∧ vl.ownBlock ≠ some r.1 ∧ vf.ownBlock ≠ some r.1 ∧ r.2.2.length + 1 ≤ r.2.1 ∧ r.2.1 ≤ 9223372036854775807 ∧
    (∀ j, j < r.2.2.length → w.cell? ⟨r.1, j, none⟩ = some (.int .i64 (r.2.2.getD j 0))) ∧ w.cell? ⟨r.1, r.2.2.length, none⟩ = some (.int .i64 77) ∧ ∀ i, w.frozen? ⟨r.1, i, none⟩ = false
  dis : rows.Pairwise fun r r' => r.1 ≠ r'.1
theorem Two.nil (base : Nat) (w : World) : Two base w (.slice none 0 0) (.slice none 0 0) [] :=
  ⟨World.ownsRow_nil w base 36 1, World.ownsRow_nil w base 36 1, (fun b h => by cases h), (fun r h => by simp at h), List.Pairwise.nil⟩
theorem Two.below {base : Nat} {w w' : World} {vl vf : Value} {rows : List Rw} (h : Two base w vl vf rows) (hb : Below w.heap.size w w') : Two base w' vl vf rows :=
  ⟨own_below h.ownl hb, own_below h.ownf hb, h.sep, fun r hr => by
    obtain ⟨a1, a2, a3, a4, a5, a6, a7, a8, a9⟩ := h.rd r hr
    exact ⟨a1, Nat.lt_of_lt_of_le a2 hb.size, a3, a4, a5, a6, fun j hj => by rw [hb.cell (p := ⟨r.1, j, none⟩) a2]; exact a7 j hj, by rw [hb.cell (p := ⟨r.1, r.2.2.length, none⟩) a2]; exact a8, fun i => by rw [hb.frozen (p := ⟨r.1, i, none⟩) a2]; exact a9 i⟩, h.dis⟩
theorem Two.midl {base : Nat} {w1 w2 : World} {vl vf : Value} {rows : List Rw} {o1 : Obj} (h : Two base w1 vl vf rows) (gr1 : (w1.alloc o1).grownBy w2 vf.ownBlock) : w2.ownsRow base 36 1 vl rows.length (rows.map lv) :=
  own_kept (al_own h.ownl o1) gr1 (fun b hb c => h.sep b hb c)
theorem Two.add {base : Nat} {w1 w2 w3 : World} {vl vf vl' vf' : Value} {rows : List Rw} {r : Rw} {o1 o2 : Obj} (h : Two base w1 vl vf rows) (hg1 : base ≤ r.1) (hg2 : r.1 < w1.heap.size) (hl : vl.ownBlock ≠ some r.1) (hf : vf.ownBlock ≠ some r.1) (hnew : ∀ r', r' ∈ rows → r'.1 ≠ r.1)
    (hcap : r.2.2.length + 1 ≤ r.2.1) (hcap2 : r.2.1 ≤ 9223372036854775807) (hc : ∀ j, j < r.2.2.length → w1.cell? ⟨r.1, j, none⟩ = some (.int .i64 (r.2.2.getD j 0))) (h77 : w1.cell? ⟨r.1, r.2.2.length, none⟩ = some (.int .i64 77)) (hfz : ∀ i, w1.frozen? ⟨r.1, i, none⟩ = false)
    (gr1 : (w1.alloc o1).grownBy w2 vf.ownBlock) (hb1 : vf'.ownBlock = vf.ownBlock ∨ vf'.ownBlock = some (w1.alloc o1).heap.size) (ownf' : w2.ownsRow base 36 1 vf' (rows.length + 1) (rows.map fv ++ [fv r]))
    (gr2 : (w2.alloc o2).grownBy w3 vl.ownBlock) (hb2 : vl'.ownBlock = vl.ownBlock ∨ vl'.ownBlock = some (w2.alloc o2).heap.size) (ownl' : w3.ownsRow base 36 1 vl' (rows.length + 1) (rows.map lv ++ [lv r])) : Two base w3 vl' vf' (rows ++ [r]) := by
  have s1 : (w1.alloc o1).heap.size = w1.heap.size + 1 := by simp
  have s2 : (w2.alloc o2).heap.size = w2.heap.size + 1 := by simp
  have g1 := gr1.size
  have g2 := gr2.size
  have lvl : ∀ b, vl.ownBlock = some b → b < w1.heap.size := fun b hb => (h.ownl.lt b hb).2
  have lvf : ∀ b, vf.ownBlock = some b → b < w1.heap.size := fun b hb => (h.ownf.lt b hb).2
  have lvf' : ∀ b, vf'.ownBlock = some b → b < w2.heap.size := fun b hb => (ownf'.lt b hb).2
  have sepf : ∀ b, vf'.ownBlock = some b → vl.ownBlock ≠ some b := by
    intro b hb c
    rcases hb1 with e | e
    · exact h.sep b c (by rw [← e]; exact hb)
    · have := lvl b c
      rw [e, s1] at hb
      cases hb; omega
  have key : ∀ b, b < w1.heap.size → vl.ownBlock ≠ some b → vf.ownBlock ≠ some b → b < w3.heap.size ∧ vl'.ownBlock ≠ some b ∧ vf'.ownBlock ≠ some b ∧ (∀ j, w3.cell? ⟨b, j, none⟩ = w1.cell? ⟨b, j, none⟩) ∧ ∀ j, w3.frozen? ⟨b, j, none⟩ = w1.frozen? ⟨b, j, none⟩ := by
    intro b hb hbl hbf
    have b1 : b < (w1.alloc o1).heap.size := by rw [s1]; omega
    have b2 : b < w2.heap.size := by omega
    have b3 : b < (w2.alloc o2).heap.size := by rw [s2]; omega
    refine ⟨by omega, ?_, ?_, fun j => ?_, fun j => ?_⟩
    · rcases hb2 with e | e
      · rw [e]; exact hbl
      · rw [e, s2]; intro c; cases c; omega
    · rcases hb1 with e | e
      · rw [e]; exact hbf
      · rw [e, s1]; intro c; cases c; omega
    · rw [gr_cell gr2 b3 hbl, (bel_alloc w2 o2).cell (p := ⟨b, j, none⟩) b2, gr_cell gr1 b1 hbf, (bel_alloc w1 o1).cell (p := ⟨b, j, none⟩) hb]
    · rw [gr_frozen gr2 b3 hbl, (bel_alloc w2 o2).frozen (p := ⟨b, j, none⟩) b2, gr_frozen gr1 b1 hbf, (bel_alloc w1 o1).frozen (p := ⟨b, j, none⟩) hb]
  refine ⟨by rw [List.length_append, List.map_append]; exact ownl', ?_, ?_, fun r' hr => ?_, ?_⟩
  · rw [List.length_append, List.map_append]
    exact own_kept (al_own ownf' o2) gr2 (fun b hb c => sepf b hb c)
  · intro b hb c
    rcases hb2 with e | e
    · exact sepf b c (by rw [← e]; exact hb)
    · have := lvf' b c
      rw [e, s2] at hb
      cases hb; omega
  · rcases List.mem_append.1 hr with hr | hr
    · obtain ⟨a1, a2, a3, a4, a5, a6, a7, a8, a9⟩ := h.rd r' hr
      obtain ⟨k1, k2, k3, k4, k5⟩ := key r'.1 a2 a3 a4
      exact ⟨a1, k1, k2, k3, a5, a6, fun j hj => by rw [k4]; exact a7 j hj, by rw [k4]; exact a8, fun i => by rw [k5]; exact a9 i⟩
    · obtain rfl : r' = r := by simpa using hr
      obtain ⟨k1, k2, k3, k4, k5⟩ := key r'.1 hg2 hl hf
      exact ⟨hg1, k1, k2, k3, hcap, hcap2, fun j hj => by rw [k4]; exact hc j hj, by rw [k4]; exact h77, fun i => by rw [k5]; exact hfz i⟩
  · rw [List.pairwise_append]
    refine ⟨h.dis, by simp, fun r' hr' r'' hr'' => ?_⟩
    obtain rfl : r'' = r := by simpa using hr''
    exact hnew r' hr'

/-- both lists at rest -/
structure Fin2 (base B : Nat) (w : World) (gl gf n : Nat) (rows : List Rw) : Prop where
  len : rows.length = n
  l : ∀ i r, rows[i]? = some r → w.cell? ⟨gl, i, none⟩ = some (lv r)
  lz : w.cell? ⟨gl, n, none⟩ = some (.slice none 0 0)
  f : ∀ i r, rows[i]? = some r → w.cell? ⟨gf, i, none⟩ = some (fv r)
  glt : gl < B ∧ (0 < n → gf < B)
  rd : ∀ r, r ∈ rows → base ≤ r.1 ∧ r.1 < B ∧ r.1 ≠ gl ∧ (0 < n → r.1 ≠ gf) ∧ r.2.2.length + 1 ≤ r.2.1 ∧ r.2.1 ≤ 9223372036854775807 ∧
    (∀ j, j < r.2.2.length → w.cell? ⟨r.1, j, none⟩ = some (.int .i64 (r.2.2.getD j 0))) ∧ w.cell? ⟨r.1, r.2.2.length, none⟩ = some (.int .i64 77) ∧ ∀ i, w.frozen? ⟨r.1, i, none⟩ = false
  dis : rows.Pairwise fun r r' => r.1 ≠ r'.1
theorem Fin2.below {base B : Nat} {w w' : World} {gl gf n : Nat} {rows : List Rw} (h : Fin2 base B w gl gf n rows) (hb : Below B w w') : Fin2 base B w' gl gf n rows := by
  refine ⟨h.len, fun i r hr => by rw [hb.cell (p := ⟨gl, i, none⟩) h.glt.1]; exact h.l i r hr, by rw [hb.cell (p := ⟨gl, n, none⟩) h.glt.1]; exact h.lz, fun i r hr => ?_, h.glt, fun r hr => ?_, h.dis⟩
  · have h0 : 0 < n := by have := (List.getElem?_eq_some_iff.1 hr).1; have := h.len; omega
    rw [hb.cell (p := ⟨gf, i, none⟩) (h.glt.2 h0)]; exact h.f i r hr
  · obtain ⟨a1, a2, a3, a4, a5, a6, a7, a8, a9⟩ := h.rd r hr
    exact ⟨a1, a2, a3, a4, a5, a6, fun j hj => by rw [hb.cell (p := ⟨r.1, j, none⟩) a2]; exact a7 j hj, by rw [hb.cell (p := ⟨r.1, r.2.2.length, none⟩) a2]; exact a8, fun i => by rw [hb.frozen (p := ⟨r.1, i, none⟩) a2]; exact a9 i⟩
theorem Fin2.store {base B : Nat} {w : World} {gl gf n i j g cap : Nat} {ys : List Int} {rows : List Rw} (h : Fin2 base B w gl gf n rows) (hi : rows[i]? = some (g, cap, ys)) (hj : j < ys.length) (z : Int) :
    Fin2 base B (w.setCell ⟨g, j, none⟩ (.int .i64 z)) gl gf n (rows.set i (g, cap, ys.set j z)) := by
  have hmem : (g, cap, ys) ∈ rows := List.mem_of_getElem? hi
  have hil := (List.getElem?_eq_some_iff.1 hi).1
  have h0 : 0 < n := by have := h.len; omega
  obtain ⟨b1, b2, b3, b4, b5, b6, b7, b8, b9⟩ := h.rd _ hmem
  have oth : ∀ b k, b ≠ g → (w.setCell ⟨g, j, none⟩ (.int .i64 z)).cell? ⟨b, k, none⟩ = w.cell? ⟨b, k, none⟩ := fun b k hb => World.cell?_setCell_other _ _ _ _ (fun c => hb (by have := congrArg Addr.block c; exact this.symm))
  have same : ∀ k, k ≠ j → (w.setCell ⟨g, j, none⟩ (.int .i64 z)).cell? ⟨g, k, none⟩ = w.cell? ⟨g, k, none⟩ := fun k hk => World.cell?_setCell_other _ _ _ _ (fun c => hk (by simpa using c.symm))
  have pick : ∀ k r, (rows.set i (g, cap, ys.set j z))[k]? = some r → (k = i ∧ r = (g, cap, ys.set j z)) ∨ (k ≠ i ∧ rows[k]? = some r) := by
    intro k r hk
    by_cases e : k = i
    · subst e
      rw [List.getElem?_set_self hil] at hk
      exact .inl ⟨rfl, by cases hk; rfl⟩
    · rw [List.getElem?_set_ne (by omega)] at hk
      exact .inr ⟨e, hk⟩
  refine ⟨by rw [List.length_set]; exact h.len, fun k r hk => ?_, by rw [oth _ _ (Ne.symm b3)]; exact h.lz, fun k r hk => ?_, h.glt, fun r hr => ?_, ?_⟩
  · rw [oth _ _ (Ne.symm b3)]
    rcases pick k r hk with ⟨rfl, rfl⟩ | ⟨_, hk⟩
    · rw [h.l k _ hi]; simp [lv]
    · exact h.l k r hk
  · rw [oth _ _ (Ne.symm (b4 h0))]
    rcases pick k r hk with ⟨rfl, rfl⟩ | ⟨_, hk⟩
    · rw [h.f k _ hi]; simp [fv]
    · exact h.f k r hk
  · obtain ⟨k, hk⟩ := List.getElem?_of_mem hr
    rcases pick k r hk with ⟨rfl, rfl⟩ | ⟨hki, hk⟩
    · refine ⟨b1, b2, b3, b4, by simpa using b5, b6, fun j' hj' => ?_, ?_, fun i => by rw [World.frozen?_setCell]; exact b9 i⟩
      · have hj2 : j' < ys.length := by simpa using hj'
        show (w.setCell ⟨g, j, none⟩ (.int .i64 z)).cell? ⟨g, j', none⟩ = some (.int .i64 ((ys.set j z).getD j' 0))
        by_cases e : j' = j
        · subst e
          rw [World.cell?_setCell_same _ _ _ (b7 j' hj2), List.getD_eq_getElem?_getD, List.getElem?_set_self hj]; rfl
        · rw [same _ e, b7 j' hj2, List.getD_eq_getElem?_getD, List.getD_eq_getElem?_getD, List.getElem?_set_ne (by omega)]
      · show (w.setCell ⟨g, j, none⟩ (.int .i64 z)).cell? ⟨g, (ys.set j z).length, none⟩ = _
        rw [List.length_set, same _ (by omega)]; exact b8
    · obtain ⟨a1, a2, a3, a4, a5, a6, a7, a8, a9⟩ := h.rd r (List.mem_of_getElem? hk)
      have hne : r.1 ≠ g := by
        have hkl := (List.getElem?_eq_some_iff.1 hk).1
        have e1 := (List.getElem?_eq_some_iff.1 hk).2
        have e2 := (List.getElem?_eq_some_iff.1 hi).2
        rcases Nat.lt_or_ge k i with h1 | h1
        · have := List.pairwise_iff_getElem.1 h.dis k i hkl hil h1
          rw [e1, e2] at this; exact this
        · have := List.pairwise_iff_getElem.1 h.dis i k hil hkl (by omega)
          rw [e1, e2] at this; exact fun c => this c.symm
      exact ⟨a1, a2, a3, a4, a5, a6, fun j' hj' => by rw [oth _ _ hne]; exact a7 j' hj', by rw [oth _ _ hne]; exact a8, fun i => by rw [World.frozen?_setCell]; exact a9 i⟩
  · rw [List.pairwise_iff_getElem]
    intro p q hp hq hpq
    have hd := List.pairwise_iff_getElem.1 h.dis p q (by simpa using hp) (by simpa using hq) hpq
    have fst_set : ∀ k (hk : k < (rows.set i (g, cap, ys.set j z)).length), (rows.set i (g, cap, ys.set j z))[k].1 = (rows[k]'(by simpa using hk)).1 := by
      intro k hk
      rw [List.getElem_set]
      split
      · rename_i e
        subst e
        have e2 := (List.getElem?_eq_some_iff.1 hi).2
        rw [e2]
      · rfl
    rw [fst_set p hp, fst_set q hq]
    exact hd

/-- rows turned -/
structure TM (B : Nat) (w : World) (v : Value) (trs : List (Value × List Int)) : Prop where
  own : w.ownsRow B 36 1 v trs.length (trs.map Prod.fst)
  rd : ∀ r, r ∈ trs → (r.1 = .slice none 0 0 ∧ r.2 = []) ∨ ∃ b cap, r.1 = .slice (some ⟨b, 0, none⟩) r.2.length cap ∧ r.2.length ≤ 9223372036854775807 ∧ B ≤ b ∧ b < w.heap.size ∧ v.ownBlock ≠ some b ∧ ∀ j, j < r.2.length → w.cell? ⟨b, j, none⟩ = some (.int .i64 (r.2.getD j 0))
theorem TM.nil (B : Nat) (w : World) : TM B w (.slice none 0 0) [] := ⟨World.ownsRow_nil w B 36 1, fun r h => by simp at h⟩
theorem TM.below {B : Nat} {w w' : World} {v : Value} {trs : List (Value × List Int)} (h : TM B w v trs) (hb : Below w.heap.size w w') : TM B w' v trs :=
  ⟨own_below h.own hb, fun r hr => by
    rcases h.rd r hr with e | ⟨b, cap, e1, e2, e3, e4, e5, e6⟩
    · exact .inl e
    · exact .inr ⟨b, cap, e1, e2, e3, Nat.lt_of_lt_of_le e4 hb.size, e5, fun j hj => by rw [hb.cell (p := ⟨b, j, none⟩) e4]; exact e6 j hj⟩⟩
theorem TM.store {B : Nat} {w : World} {v : Value} {trs : List (Value × List Int)} (h : TM B w v trs) {g j : Nat} (hg : g < B) (u : Value) : TM B (w.setCell ⟨g, j, none⟩ u) v trs :=
  ⟨own_stored h.own hg, fun r hr => by
    rcases h.rd r hr with e | ⟨b, cap, e1, e2, e3, e4, e5, e6⟩
    · exact .inl e
    · exact .inr ⟨b, cap, e1, e2, e3, by simp [World.setCell]; exact e4, e5, fun j' hj => by rw [World.cell?_setCell_other _ _ _ _ (fun c => by have := congrArg Addr.block c; simp at this; omega)]; exact e6 j' hj⟩⟩
theorem TM.storeRow {B : Nat} {w : World} {v : Value} {trs : List (Value × List Int)} (h : TM B w v trs) {g j : Nat} (hv : v.ownBlock ≠ some g) (hr : ∀ r, r ∈ trs → r.1.ownBlock ≠ some g) (u : Value) : TM B (w.setCell ⟨g, j, none⟩ u) v trs := by
  refine ⟨?_, fun r hr' => ?_⟩
  · refine ⟨h.own.1, ?_⟩
    rcases h.own.2 with hn | ⟨g', cap, cur, rfl, hbb, hgg, rest⟩
    · exact .inl hn
    · refine .inr ⟨g', cap, cur, rfl, hbb, ?_, rest⟩
      rw [← hgg]
      simp only [World.setCell, Array.getElem?_modify]
      rw [if_neg (fun e => hv (by rw [e]; rfl))]
  · rcases h.rd r hr' with e | ⟨b, cap, e1, e2, e3, e4, e5, e6⟩
    · exact .inl e
    · have hne : b ≠ g := fun e => hr r hr' (by rw [e1, e]; rfl)
      exact .inr ⟨b, cap, e1, e2, e3, by simp [World.setCell]; exact e4, e5, fun j' hj => by rw [World.cell?_setCell_other _ _ _ _ (fun c => hne (by have := congrArg Addr.block c; exact this.symm))]; exact e6 j' hj⟩
end Go.Proofs.Ytomcdnkafgmleaa
