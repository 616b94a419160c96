/- The law of the trips: the rows laid out. -/
import Derived.Test.YtomcdnkafgmleaaV5
namespace Go.Proofs.Ytomcdnkafgmleaa
open Go.RowKit

theorem Fin2.of {base n : Nat} {w1 w2 : World} {vl vf vl' : Value} {rows : List Rw} {o : Obj} (h : Two base w1 vl vf rows) (hn : rows.length = n) (gr : (w1.alloc o).grownBy w2 vl.ownBlock) (hb : vl'.ownBlock = vl.ownBlock ∨ vl'.ownBlock = some (w1.alloc o).heap.size)
    (own' : w2.ownsRow base 36 1 vl' (n + 1) (rows.map lv ++ [.slice none 0 0])) :
    ∃ gl cl gf, vl' = .slice (some ⟨gl, 0, none⟩) (n + 1) cl ∧ n + 1 ≤ cl ∧ cl ≤ 9223372036854775807 ∧ base ≤ gl ∧ (∃ af cf, vf = .slice af n cf) ∧ (0 < n → ∃ cf, vf = .slice (some ⟨gf, 0, none⟩) n cf) ∧ Fin2 base w2.heap.size w2 gl gf n rows := by
  have s1 : (w1.alloc o).heap.size = w1.heap.size + 1 := by simp
  have g1 := gr.size
  obtain ⟨gl, cl, rfl, hg1, hg2, hg3, hg4, hg5, _⟩ := own_room own' (Nat.succ_pos n)
  have lvf : ∀ b, vf.ownBlock = some b → b < w1.heap.size := fun b hb => (h.ownf.lt b hb).2
  have key : ∀ b, b < w1.heap.size → vl.ownBlock ≠ some b → b < w2.heap.size ∧ b ≠ gl ∧ (∀ j, w2.cell? ⟨b, j, none⟩ = w1.cell? ⟨b, j, none⟩) ∧ ∀ j, w2.frozen? ⟨b, j, none⟩ = w1.frozen? ⟨b, j, none⟩ := by
    intro b hlt hne
    have b1 : b < (w1.alloc o).heap.size := by rw [s1]; omega
    refine ⟨by omega, ?_, fun j => ?_, fun j => ?_⟩
    · rintro rfl
      rcases hb with e | e
      · exact hne e.symm
      · rw [s1] at e
        have : b = w1.heap.size + 1 := by
          have e2 : some b = some (w1.heap.size + 1) := e
          cases e2; rfl
        omega
    · rw [gr_cell gr b1 hne, (bel_alloc w1 o).cell (p := ⟨b, j, none⟩) hlt]
    · rw [gr_frozen gr b1 hne, (bel_alloc w1 o).frozen (p := ⟨b, j, none⟩) hlt]
  have hrd : ∀ (gf : Nat), (0 < n → vf.ownBlock = some gf) → ∀ r, r ∈ rows → base ≤ r.1 ∧ r.1 < w2.heap.size ∧ r.1 ≠ gl ∧ (0 < n → r.1 ≠ gf) ∧ r.2.2.length + 1 ≤ r.2.1 ∧ r.2.1 ≤ 9223372036854775807 ∧
    (∀ j, j < r.2.2.length → w2.cell? ⟨r.1, j, none⟩ = some (.int .i64 (r.2.2.getD j 0))) ∧ w2.cell? ⟨r.1, r.2.2.length, none⟩ = some (.int .i64 77) ∧ ∀ i, w2.frozen? ⟨r.1, i, none⟩ = false := by
    intro gf hgf r hr
    obtain ⟨a1, a2, a3, a4, a5, a6, a7, a8, a9⟩ := h.rd r hr
    obtain ⟨k1, k2, k3, k4⟩ := key r.1 a2 a3
    exact ⟨a1, k1, k2, fun h0 e => a4 (by rw [hgf h0, e]), a5, a6, fun j hj => by rw [k3]; exact a7 j hj, by rw [k3]; exact a8, fun i => by rw [k4]; exact a9 i⟩
  have hl : ∀ i r, rows[i]? = some r → w2.cell? ⟨gl, i, none⟩ = some (lv r) := fun i r hr => hg5 i _ (by
    have hi : i < rows.length := (List.getElem?_eq_some_iff.1 hr).1
    rw [List.getElem?_append_left (by simpa using hi), List.getElem?_map, hr]; rfl)
  have hlz : w2.cell? ⟨gl, n, none⟩ = some (.slice none 0 0) := hg5 n _ (by
    rw [List.getElem?_append_right (by simp [hn])]; simp [hn])
  have hform : ∃ af cf, vf = .slice af n cf := by
    have := h.ownf
    rw [hn] at this
    rcases this.2 with ⟨rfl, rfl⟩ | ⟨g', c', cur, rfl, _⟩
    · exact ⟨_, _, rfl⟩
    · exact ⟨_, _, rfl⟩
  by_cases h0 : 0 < n
  · have hof := h.ownf
    rw [hn] at hof
    obtain ⟨gf, cf, rfl, f1, f2, f3, f4, f5, _⟩ := own_room hof h0
    obtain ⟨k1, k2, k3, k4⟩ := key gf f2 (fun c => h.sep gf c rfl)
    exact ⟨gl, cl, gf, rfl, hg3, hg4, hg1, hform, fun _ => ⟨cf, rfl⟩, ⟨hn, hl, hlz, fun i r hr => by rw [k3]; exact f5 i _ (by rw [List.getElem?_map, hr]; rfl), ⟨hg2, fun _ => k1⟩, hrd gf (fun _ => rfl), h.dis⟩⟩
  · exact ⟨gl, cl, 0, rfl, hg3, hg4, hg1, hform, fun c => absurd c h0, ⟨hn, hl, hlz, fun i r hr => by have := (List.getElem?_eq_some_iff.1 hr).1; omega, ⟨hg2, fun c => absurd c h0⟩, hrd 0 (fun c => absurd c h0), h.dis⟩⟩

def rwM (rows : List Rw) (i : Nat) : List Int := (rows.getD i (0, 0, [])).2.2
theorem rwM_at {rows : List Rw} {i : Nat} {r : Rw} (h : rows[i]? = some r) : rwM rows i = r.2.2 := by
  unfold rwM
  rw [List.getD_eq_getElem?_getD, h]; rfl
theorem rwM_past {rows : List Rw} {i : Nat} (h : rows.length ≤ i) : rwM rows i = [] := by
  unfold rwM
  rw [List.getD_eq_getElem?_getD, List.getElem?_eq_none h]; rfl
theorem Fin2.rows2 {base B : Nat} {w : World} {gl gf n cl : Nat} {rows : List Rw} (h : Fin2 base B w gl gf n rows) (hB : B ≤ w.heap.size) (hn : n ≤ 9223372036854775807) : Rows2 w (.slice (some ⟨gl, 0, none⟩) n cl) n (rwM rows) := by
  by_cases h0 : n = 0
  · exact .inl ⟨h0, _, _, by rw [h0]⟩
  · refine .inr ⟨gl, 0, cl, by omega, hn, rfl, Nat.lt_of_lt_of_le h.glt.1 hB, fun i hi => ?_⟩
    have hi' : i < rows.length := by rw [h.len]; exact hi
    have hr := List.getElem?_eq_getElem hi'
    obtain ⟨a1, a2, a3, a4, a5, a6, a7, a8, a9⟩ := h.rd _ (List.getElem_mem hi')
    refine ⟨lv rows[i], by rw [Nat.zero_add]; exact h.l i _ hr, ?_⟩
    rw [rwM_at hr]
    by_cases hl0 : rows[i].2.2 = []
    · exact .inl ⟨some ⟨rows[i].1, 0, none⟩, rows[i].2.1, by unfold lv; rw [hl0]; rfl, hl0⟩
    · exact .inr ⟨rows[i].1, 0, rows[i].2.1, List.length_pos_iff.2 hl0, by omega, rfl, fun j hj => by rw [Nat.zero_add]; exact a7 j hj⟩
theorem src_below {w w' : World} {v : Value} {xs : List Value} (h : Src w v xs) (hb : Below w.heap.size w w') : Src w' v xs := by
  rcases h with h | h | ⟨b, off, cap, hl, rfl, hc⟩
  · exact .inl h
  · exact .inr (.inl h)
  · by_cases h0 : xs.length = 0
    · exact .inr (.inr ⟨b, off, cap, hl, rfl, fun i hi => by omega⟩)
    · have hlt : b < w.heap.size := by
        have := hc 0 (by omega)
        rw [List.getElem?_eq_getElem (by omega)] at this
        exact World.block_lt_of_cell? w ⟨b, off + 0, none⟩ this
      exact .inr (.inr ⟨b, off, cap, hl, rfl, fun i hi => by rw [hb.cell (p := ⟨b, off + i, none⟩) hlt]; exact hc i hi⟩)
/-- rows that can be copied -/
def RowsS (w : World) (v : Value) (n : Nat) (H : Nat → List Int) : Prop := ∀ i, i < n → ∃ b off cap r, v = .slice (some ⟨b, off, none⟩) n cap ∧ b < w.heap.size ∧ w.cell? ⟨b, off + i, none⟩ = some r ∧ Src w r ((H i).map (Value.int .i64))
theorem RowsS.at {w w' : World} {a : Option Addr} {n cap : Nat} {H : Nat → List Int} (h : RowsS w (.slice a n cap) n H) (hb : Below w.heap.size w w') {i : Nat} (hi : i < n) : ∃ b off r, a = some ⟨b, off, none⟩ ∧ w'.cell? ⟨b, off + i, none⟩ = some r ∧ Src w' r ((H i).map (Value.int .i64)) := by
  obtain ⟨b, off, c, r, e, hlt, hc, hs⟩ := h i hi
  simp only [Value.slice.injEq] at e
  exact ⟨b, off, r, e.1, by rw [hb.cell (p := ⟨b, off + i, none⟩) hlt]; exact hc, src_below hs hb⟩

theorem Fin2.mono {base B B' : Nat} {w : World} {gl gf n : Nat} {rows : List Rw} (h : Fin2 base B w gl gf n rows) (hB : B ≤ B') : Fin2 base B' w gl gf n rows :=
  ⟨h.len, h.l, h.lz, h.f, ⟨Nat.lt_of_lt_of_le h.glt.1 hB, fun h0 => Nat.lt_of_lt_of_le (h.glt.2 h0) hB⟩, fun r hr => by
    obtain ⟨a1, a2, a3⟩ := h.rd r hr
    exact ⟨a1, Nat.lt_of_lt_of_le a2 hB, a3⟩, h.dis⟩
theorem Row.other {w : World} {g g2 k : Nat} {ys : List Int} (h : Row w g ys) (hne : g ≠ g2) (u : Value) : Row (w.setCell ⟨g2, k, none⟩ u) g ys := by
  refine ⟨fun i hi => ?_, fun i => by rw [World.frozen?_setCell]; exact h.2.1 i, by simp [World.setCell]; exact h.2.2⟩
  rw [World.cell?_setCell_other _ _ _ _ (fun c => hne (by have := congrArg Addr.block c; exact this.symm))]
  exact h.1 i hi
theorem TM.add {B : Nat} {w1 w' : World} {v v' rv : Value} {trs : List (Value × List Int)} {ys : List Int} {o : Obj} (h : TM B w1 v trs)
    (hrow : (rv = .slice none 0 0 ∧ ys = []) ∨ ∃ g cap, rv = .slice (some ⟨g, 0, none⟩) ys.length cap ∧ ys.length ≤ 9223372036854775807 ∧ B ≤ g ∧ g < w1.heap.size ∧ v.ownBlock ≠ some g ∧ ∀ j, j < ys.length → w1.cell? ⟨g, j, none⟩ = some (.int .i64 (ys.getD j 0)))
    (own' : w'.ownsRow B 36 1 v' (trs.length + 1) (trs.map Prod.fst ++ [rv])) (gr : (w1.alloc o).grownBy w' v.ownBlock) (hb : v'.ownBlock = v.ownBlock ∨ v'.ownBlock = some (w1.alloc o).heap.size) : TM B w' v' (trs ++ [(rv, ys)]) := by
  have hsz : (w1.alloc o).heap.size = w1.heap.size + 1 := by simp
  have key : ∀ b, b < w1.heap.size → v.ownBlock ≠ some b → b < w'.heap.size ∧ v'.ownBlock ≠ some b ∧ ∀ j, w'.cell? ⟨b, j, none⟩ = w1.cell? ⟨b, j, none⟩ := by
    intro b hlt hne
    have h1 : b < (w1.alloc o).heap.size := by rw [hsz]; omega
    refine ⟨Nat.lt_of_lt_of_le h1 gr.size, ?_, fun j => ?_⟩
    · rcases hb with e | e
      · rw [e]; exact hne
      · rw [e, hsz]; intro c; cases c; omega
    · rw [gr_cell gr h1 hne, (bel_alloc w1 o).cell (p := ⟨b, j, none⟩) hlt]
  refine ⟨by rw [List.length_append, List.map_append]; exact own', fun r hr => ?_⟩
  rcases List.mem_append.1 hr with hr | hr
  · rcases h.rd r hr with e | ⟨b, cap, e1, e2, e3, e4, e5, e6⟩
    · exact .inl e
    · obtain ⟨k1, k2, k3⟩ := key b e4 e5
      exact .inr ⟨b, cap, e1, e2, e3, k1, k2, fun j hj => by rw [k3]; exact e6 j hj⟩
  · obtain rfl : r = (rv, ys) := by simpa using hr
    rcases hrow with e | ⟨g, cap, e1, e2, e3, e4, e5, e6⟩
    · exact .inl e
    · obtain ⟨k1, k2, k3⟩ := key g e4 e5
      exact .inr ⟨g, cap, e1, e2, e3, k1, k2, fun j hj => by rw [k3]; exact e6 j hj⟩
theorem TM.rows2 {B : Nat} {w : World} {v : Value} {n : Nat} {trs : List (Value × List Int)} (h : TM B w v trs) (hn : trs.length = n) (hm : n ≤ 9223372036854775807) : Rows2 w v n (rowsM trs) := by
  have hown := h.own
  rw [hn] at hown
  by_cases h0 : n = 0
  · rcases hown.2 with ⟨rfl, _⟩ | ⟨g, cap, cur, rfl, _⟩
    · exact .inl ⟨h0, _, _, rfl⟩
    · exact .inl ⟨h0, _, _, by rw [h0]⟩
  · obtain ⟨g, cap, rfl, _, hlt, _, _, hc, _⟩ := own_room hown (by omega)
    refine .inr ⟨g, 0, cap, by omega, hm, rfl, hlt, fun i hi => ?_⟩
    obtain ⟨r, hr, e, hg⟩ := rowsM_mem (rows := trs) (i := i) (by omega)
    refine ⟨r.1, by rw [Nat.zero_add]; exact hc i r.1 (by rw [List.getElem?_map, hg]; rfl), ?_⟩
    rw [e]
    rcases h.rd r hr with ⟨e1, e2⟩ | ⟨b, cap2, e1, e2, e3, e4, e5, e6⟩
    · exact .inl ⟨_, _, e1, e2⟩
    · by_cases hl0 : r.2 = []
      · exact .inl ⟨_, _, by rw [e1, hl0]; rfl, hl0⟩
      · exact .inr ⟨b, 0, cap2, List.length_pos_iff.2 hl0, e2, e1, fun j hj => by rw [Nat.zero_add]; exact e6 j hj⟩

theorem quiet_ints {w : World} {v v' : Value} {h : List Int} (hv : Ints w v h) (hv' : Ints w v' h) (m : Nat) : Calls Try.prog 17 #[v, v'] (w.drewN m) fun e w'' => e = .returned (.bool true) ∧ ∃ k, w'' = w.drewN k := by
  refine (ints_any v v' h (w.drewN m) (hv.below (below_drewN (Below.refl _ _) _)) (hv'.below (below_drewN (Below.refl _ _) _))).mono ?_
  rintro e w' ⟨rfl, k, rfl⟩
  exact ⟨rfl, m + k, by simp⟩
theorem own_rowalt {w : World} {base L : Nat} {v : Value} {ys : List Int} (h : w.ownsRow base 3 1 v L (ys.map (Value.int .i64))) :
    (v = .slice none 0 0 ∧ L = 0) ∨ ∃ g cap, v = .slice (some ⟨g, 0, none⟩) L cap ∧ base ≤ g ∧ Row w g ys := by
  rcases h.2 with ⟨rfl, hn⟩ | ⟨g, cap, cur, rfl, hb, hg, hnc, hcm, hcs, ht⟩
  · exact .inl ⟨rfl, hn⟩
  · refine .inr ⟨g, cap, rfl, hb, fun i hi => ?_, fun i => by simp only [World.frozen?, hg]; simp, (h.lt g rfl).2⟩
    have hc := h.cells (g := g) rfl i (.int .i64 (ys.getD i 0)) (by simp [List.getD_eq_getElem?_getD, List.getElem?_eq_getElem hi])
    rw [← hc, addr_add, Nat.zero_add]

theorem set_self {α : Type} {l : List α} {k : Nat} {r : α} (h : l[k]? = some r) : l.set k r = l := by
  apply List.ext_getElem?
  intro i
  by_cases e : i = k
  · subst e
    rw [List.getElem?_set_self (List.getElem?_eq_some_iff.1 h).1, h]
  · rw [List.getElem?_set_ne (by omega)]

theorem rel_next {trs : List (Value × List Int)} {rows2 : List Rw} {H : Nat → List Int} {k g cap : Nat} {v : Value} {ys ys0 : List Int} (h : ∀ k r, rows2[k]? = some r → (k < trs.length → ∃ tr, trs[k]? = some tr ∧ tr.2 = r.2.2) ∧ (trs.length ≤ k → r.2.2 = H k))
    (hk : trs.length = k) (hr : rows2[k]? = some (g, cap, ys0)) : ∀ k' r, (rows2.set k (g, cap, ys))[k']? = some r → (k' < (trs ++ [(v, ys)]).length → ∃ tr, (trs ++ [(v, ys)])[k']? = some tr ∧ tr.2 = r.2.2) ∧ ((trs ++ [(v, ys)]).length ≤ k' → r.2.2 = H k') := by
  intro k' r hr'
  have hl : (trs ++ [(v, ys)]).length = k + 1 := by rw [List.length_append, hk]; rfl
  rw [hl]
  by_cases e : k' = k
  · subst e
    rw [List.getElem?_set_self (List.getElem?_eq_some_iff.1 hr).1] at hr'
    have : r = (g, cap, ys) := by cases hr'; rfl
    subst this
    exact ⟨fun _ => ⟨(v, ys), by rw [List.getElem?_append_right (by omega), hk]; simp, rfl⟩, fun c => by omega⟩
  · rw [List.getElem?_set_ne (by omega)] at hr'
    obtain ⟨h1, h2⟩ := h k' r hr'
    refine ⟨fun c => ?_, fun c => h2 (by omega)⟩
    obtain ⟨tr, t1, t2⟩ := h1 (by omega)
    exact ⟨tr, by rw [List.getElem?_append_left (by omega)]; exact t1, t2⟩

set_option maxRecDepth 100000 in
set_option maxHeartbeats 8000000 in
theorem trips4 (v0 : Value) (n : Nat) (H : Nat → List Int) (w : World) (hv : Rows2 w v0 n H) (hS : RowsS w v0 n H) (hH : ∀ i, n ≤ i → H i = []) (hn : n * 24 ≤ 140737488351232) (hr : ∀ i, (H i).length * 8 ≤ 140737488351232) :
    Calls Try.prog 4 #[v0] w fun e w' => e = .returned (.bool true) ∧ Below w.heap.size w w' := by
  obtain ⟨a0, cap0, rfl, hm⟩ := hv.form
  have HV := Lib.hid hv
  have HS := Lib.hid hS
  have HH := Lib.hid hH
  have HR := Lib.hid hr
  have T0 := Lib.hid (Two.nil w.heap.size w)
  clear hv hS hH hr
  go_enter Try.func4, Try.ntmps4
  go_wp2_with fail
  go_loopw [3, 4, 5] (fun l f i wr => ∃ (vl vf : Value) (rows : List Rw), vl = l ∧ vf = f ∧ rows.length ≤ n ∧ i = .int .i64 (rows.length : Nat) ∧ Two w.heap.size wr vl vf rows ∧ (∀ k r, rows[k]? = some r → r.2.2 = H k) ∧ Below w.heap.size w wr) (fun _ _ i _ => n - (intOf i).toNat)
  case atStart => exact ⟨_, _, [], rfl, rfl, Nat.zero_le _, rfl, T0.out, fun k r h => by simp at h, Below.refl _ _⟩
  clear T0
  obtain ⟨vl, vf, rows, rfl, rfl, hk, rfl, tw, hrows, bel⟩ := hrel
  have Tw := Lib.hid tw
  have Hrows := Lib.hid hrows
  have Bel := Lib.hid bel
  obtain ⟨k, hkk⟩ : ∃ k, rows.length = k := ⟨_, rfl⟩
  have HK := Lib.hid hkk
  rw [hkk] at hk
  rw [hkk]
  clear tw hrows bel hkk
  by_cases hlt : k < n
  case pos =>
    obtain ⟨b, off, rv, rfl, cr, hsrc⟩ := HS.out.at Bel.out hlt
    have Hsrc := Lib.hid hsrc
    obtain ⟨L, hL⟩ : ∃ L, (H k).length = L := ⟨_, rfl⟩
    have hLb := HR.out k
    rw [hL] at hLb
    have HL := Lib.hid hL
    have HLM := Lib.hid (show ((H k).map (Value.int .i64)).length = L by rw [List.length_map]; exact hL)
    have own0 := Lib.hid (World.ownsRow_nil wr wr.heap.size 3 1)
    have A1 := Lib.hid (show ∀ u ∈ (H k).map (Value.int .i64), u.oneCell' = true from fun u hu => by obtain ⟨k, _, rfl⟩ := List.mem_map.1 hu; rfl)
    have A2 := Lib.hid (show 0 + ((H k).map (Value.int .i64)).length ≤ maxLen by rw [HLM.out]; unfold maxLen; omega)
    have A3 := Lib.hid (show (0 + ((H k).map (Value.int .i64)).length) * 8 ≤ 140737488355328 by rw [HLM.out]; omega)
    have A4 := Lib.hid (show L + 1 ≤ maxLen by unfold maxLen; omega)
    have A5 := Lib.hid (show (L + 1) * 8 ≤ 140737488355328 by omega)
    have C1 := Lib.hid (show k + 1 ≤ maxLen by unfold maxLen; omega)
    have C2 := Lib.hid (show (k + 1) * 24 ≤ 140737488355328 by omega)
    have SzB := Lib.hid Bel.out.size
    have l1 : (k : Int) < (n : Int) := by omega
    have l2 : (0 : Int) ≤ (k : Int) := by omega
    have tok1 : True := trivial
    have tok2 : True := trivial
    have tok3 : True := trivial
    have tok4 : True := trivial
    clear hsrc hL
    go_wp2_with (first | (at_builtin; have _t := tok1; go_loud (refine wpList_appSrc _ rfl _ _ 36 rfl wr.heap.size 3 (.int .i64 0) 8 Try.underlying36 info3 rfl _ _ _ rfl own0.out _ _ rfl Hsrc.out A1.out A2.out A3.out (Nat.le_refl _) ?_); intro v1 w1 own1 bel1; clear tok1; rw [Nat.zero_add, HLM.out, List.nil_append] at own1; have Own1 := Lib.hid own1; have Z1 := Lib.hid bel1.size; have Bel1 := Lib.hid bel1; clear own1 bel1) | (at_builtin; have _t := tok2; go_loud (refine wpList_app1 _ rfl _ _ 36 rfl wr.heap.size 3 (.int .i64 0) 8 Try.underlying36 info3 rfl _ _ _ rfl (Own1.out.alloc _) w1.heap.size (.int .i64 77) rfl (cell1_new _ _ _) rfl A4.out A5.out (Nat.le_trans Z1.out (size_alloc_le _ _)) ?_); intro v2 w2 own2 bel2; clear tok2; have Bel2 := Lib.hid (Bel1.out.trans (below_alloc1 Z1.out bel2)); clear bel2; obtain ⟨g, cap, rfl, hg1, hg2, hg3, hg4, hg5, hg6⟩ := own_room own2 (Nat.succ_pos _); have G := Lib.hid (And.intro hg1 (And.intro hg2 (And.intro hg4 (And.intro hg5 hg6)))); have hg3' : (L : Int) + 1 ≤ (cap : Int) := Int.ofNat_le.2 hg3; have Tw2 := Lib.hid (Tw.out.below Bel2.out); have of2 := Tw2.out.ownf; rw [HK.out] at of2; have Of2 := Lib.hid of2; have Sz2 := Lib.hid (Nat.le_trans SzB.out Bel2.out.size); clear own2 hg1 hg2 hg4 hg5 hg6 of2) | (at_builtin; have _t := tok3; go_loud (refine wpList_appFar _ rfl _ _ 35 rfl w.heap.size 36 (.slice none 0 0) 24 Try.underlying35 info36 rfl _ _ _ rfl (Of2.out.alloc _) w2.heap.size (.slice (some ⟨g, 0, none⟩) (L + 1) cap) rfl (cell1_new _ _ _) rfl C1.out C2.out (Nat.le_trans Sz2.out (size_alloc_le _ _)) ?_); intro v3 w3 own3 gr3 bel3 ob3; clear tok3; have ol3 := Two.midl Tw2.out gr3; rw [HK.out] at ol3; have Ol3 := Lib.hid ol3; have Own3 := Lib.hid own3; have Gr3 := Lib.hid gr3; have Ob3 := Lib.hid ob3; have Bel3 := Lib.hid bel3; have Sz3 := Lib.hid (Nat.le_trans Sz2.out (Nat.le_trans (size_alloc_le _ _) bel3.size)); clear own3 gr3 bel3 ob3 ol3) | (at_builtin; have _t := tok4; go_loud (refine wpList_appFar _ rfl _ _ 35 rfl w.heap.size 36 (.slice none 0 0) 24 Try.underlying35 info36 rfl _ _ _ rfl (Ol3.out.alloc _) w3.heap.size (.slice (some ⟨g, 0, none⟩) L cap) rfl (cell1_new _ _ _) rfl C1.out C2.out (Nat.le_trans Sz3.out (size_alloc_le _ _)) ?_); intro v4 w4 own4 gr4 bel4 ob4; clear tok4))
    have hcells : ∀ j, j < (H k).length → w2.cell? ⟨g, j, none⟩ = some (.int .i64 ((H k).getD j 0)) := fun j hj => G.out.2.2.2.1 j _ (by
      rw [List.getElem?_append_left (by simpa using hj), List.getElem?_map, List.getD_eq_getElem?_getD, List.getElem?_eq_getElem hj]; rfl)
    have h77 : w2.cell? ⟨g, (H k).length, none⟩ = some (.int .i64 77) := G.out.2.2.2.1 _ _ (by
      rw [List.getElem?_append_right (by simp)]; simp)
    have Tn := Two.add (r := (g, cap, H k)) Tw2.out (Nat.le_trans SzB.out G.out.1) G.out.2.1
      (fun c => by have := (Tw.out.ownl.lt g c).2; have := G.out.1; omega) (fun c => by have := (Tw.out.ownf.lt g c).2; have := G.out.1; omega)
      (fun r' hr' => by have := (Tw.out.rd r' hr').2.1; have := G.out.1; omega) (by rw [HL.out]; exact hg3) G.out.2.2.1 hcells h77 G.out.2.2.2.2
      Gr3.out Ob3.out (by rw [HK.out]; show w3.ownsRow w.heap.size 36 1 v3 (k + 1) (rows.map fv ++ [.slice (some ⟨g, 0, none⟩) ((H k).length + 1) cap]); rw [HL.out]; exact Own3.out)
      gr4 ob4 (by rw [HK.out]; show w4.ownsRow w.heap.size 36 1 v4 (k + 1) (rows.map lv ++ [.slice (some ⟨g, 0, none⟩) (H k).length cap]); rw [HL.out]; exact own4)
    exact ⟨⟨_, _, rows ++ [(g, cap, H k)], rfl, rfl, by rw [List.length_append, HK.out]; exact hlt, by rw [List.length_append, HK.out]; rfl, Tn, fun k' r' h' => by
      rcases Nat.lt_or_ge k' rows.length with h1 | h1
      · rw [List.getElem?_append_left h1] at h'
        exact Hrows.out k' r' h'
      · rw [List.getElem?_append_right h1, HK.out] at h'
        have e1 : k' - k = 0 := by
          have := (List.getElem?_eq_some_iff.1 h').1
          simpa using this
        rw [e1] at h'
        have e2 : k' = k := by have := HK.out; omega
        have e3 : r' = (g, cap, H k) := by simpa using h'.symm
        rw [e3, e2],
      Bel.out.trans ((Bel2.out.mono SzB.out).trans ((below_alloc1 Sz2.out Bel3.out).trans (below_alloc1 Sz3.out bel4)))⟩, by simp [intOf]; omega⟩
  obtain rfl : n = k := by omega
  have ol := Tw.out.ownl
  rw [HK.out] at ol
  have Ol := Lib.hid ol
  have SzB := Lib.hid Bel.out.size
  have C1 := Lib.hid (show n + 1 ≤ maxLen by unfold maxLen; omega)
  have C2 := Lib.hid (show (n + 1) * 24 ≤ 140737488355328 by omega)
  have hRH : rwM rows = H := by
    funext i
    by_cases hi : i < n
    · have hi' : i < rows.length := by rw [HK.out]; exact hi
      rw [rwM_at (List.getElem?_eq_getElem hi')]
      exact Hrows.out i _ (List.getElem?_eq_getElem hi')
    · rw [rwM_past (by rw [HK.out]; omega), HH.out i (by omega)]
  have HRH := Lib.hid hRH
  clear ol hRH
  go_wp2_with (at_builtin; go_loud (refine wpList_appFar _ rfl _ _ 35 rfl w.heap.size 36 (.slice none 0 0) 24 Try.underlying35 info36 rfl _ _ _ rfl (Ol.out.alloc _) wr.heap.size (.slice none 0 0) rfl (cell1_new _ _ _) rfl C1.out C2.out (Nat.le_trans SzB.out (size_alloc_le _ _)) ?_); intro v5 w5 own5 gr5 bel5 ob5; obtain ⟨gl, cl, gf, rfl, hcl, hcl2, hgl, ⟨af, cf, rfl⟩, hvf, hfin⟩ := Fin2.of Tw.out HK.out gr5 ob5 own5; have Fn := Lib.hid hfin; have Hvf := Lib.hid hvf; have B5 := Lib.hid (Bel.out.trans (below_alloc1 SzB.out bel5)); have hcl' : (n : Int) + 1 ≤ (cl : Int) := Int.ofNat_le.2 hcl; clear own5 gr5 bel5 ob5 hfin hvf)
  have R5 := Lib.hid (Fn.out.rows2 (cl := cl) (Nat.le_refl _) hm)
  rw [HRH.out] at R5
  refine (trip_all _ n H w5 R5.out HH.out).mono ?_
  rintro e w6 ⟨tl, rfl, itl, bel6⟩
  obtain ⟨A, hA⟩ : ∃ A, (TA n H).1 = A := ⟨_, rfl⟩
  obtain ⟨x, hx⟩ : ∃ x, (TA n H).2.1 = x := ⟨_, rfl⟩
  obtain ⟨y, hy⟩ : ∃ y, (TA n H).2.2 = y := ⟨_, rfl⟩
  rw [hA] at itl
  rw [hx, hy]
  have HAx := Lib.hid (And.intro hA (And.intro hx hy))
  have I6 := Lib.hid itl
  have B6 := Lib.hid bel6
  clear hA hx hy itl bel6
  go_wp2_with fail
  refine (reftrip_all _ n H w6 (HV.out.below (B5.out.trans (B6.out.mono B5.out.size))) HH.out).mono ?_
  rintro e w7 ⟨rl, rfl, irl, bel7⟩
  rw [HAx.out.1] at irl
  rw [HAx.out.2.1, HAx.out.2.2]
  have I7 := Lib.hid (I6.out.below bel7)
  have J7 := Lib.hid irl
  have B7 := Lib.hid (B6.out.trans (bel7.mono B6.out.size))
  clear irl bel7
  go_wp2_with fail
  refine (ints_any _ _ A w7 I7.out J7.out).mono ?_
  rintro e w8 ⟨rfl, m8, rfl⟩
  have B8 := Lib.hid (B7.out.trans (below_drewN (Below.refl _ _) m8))
  have Fn8 := Lib.hid (Fn.out.below B8.out)
  clear I7 J7 B7 I6 B6
  generalize w7.drewN m8 = w8 at *
  have cz := Fn8.out.lz
  have f1 : (x != x) = false := by simp
  have f2 : (y != y) = false := by simp
  have z1 : (n : Int) < (n : Int) + 1 := by omega
  have z2 : (0 : Int) ≤ (n : Int) := by omega
  go_wp2_with fail
  have F8 := Lib.hid (Fn8.out.mono B8.out.size)
  have TM0 := Lib.hid (TM.nil w8.heap.size w8)
  have B58 := Lib.hid (B5.out.trans (B8.out.mono B5.out.size))
  have Rk8 : Hid (∀ (k : Nat) (r : Rw), rows[k]? = some r → r.2.2 = H k) := Lib.hid Hrows.out
  clear cz f1 f2 z1 z2 Fn8
  go_loopw [13, 14] (fun t i wr => ∃ (vt : Value) (trs : List (Value × List Int)) (rows2 : List Rw), vt = t ∧ trs.length ≤ n ∧ i = .int .i64 (trs.length : Nat) ∧ TM w8.heap.size wr vt trs ∧ Fin2 w.heap.size w8.heap.size wr gl gf n rows2 ∧
    (∀ k r, rows2[k]? = some r → (k < trs.length → ∃ tr, trs[k]? = some tr ∧ tr.2 = r.2.2) ∧ (trs.length ≤ k → r.2.2 = H k)) ∧ Below w.heap.size w wr ∧ w8.heap.size ≤ wr.heap.size) (fun _ i _ => n - (intOf i).toNat)
  case atStart => exact ⟨_, [], rows, rfl, Nat.zero_le _, rfl, TM0.out, F8.out, fun k r h => ⟨fun c => by simp at c, fun _ => Rk8.out k r h⟩, B58.out, Nat.le_refl _⟩
  clear TM0 F8 Rk8
  obtain ⟨vt, trs, rows2, rfl, hk, rfl, tm, fin, hrel2, bel, hsz⟩ := hrel
  have Tm := Lib.hid tm
  have Fi := Lib.hid fin
  have Hr2 := Lib.hid hrel2
  have Bl := Lib.hid bel
  have Sz := Lib.hid hsz
  obtain ⟨k, hkk⟩ : ∃ k, trs.length = k := ⟨_, rfl⟩
  have HKt := Lib.hid hkk
  rw [hkk] at hk
  rw [hkk]
  clear tm fin hrel2 bel hsz hkk
  by_cases hkn : k < n
  case pos =>
    have hi' : k < rows2.length := by rw [Fi.out.len]; exact hkn
    obtain ⟨⟨g, cap, ys0⟩, hrow⟩ : ∃ r : Rw, rows2[k]? = some r := ⟨rows2[k], List.getElem?_eq_getElem hi'⟩
    obtain rfl : ys0 = H k := (Hr2.out k _ hrow).2 (by rw [HKt.out]; exact Nat.le_refl _)
    obtain ⟨cf2, hvv⟩ := Hvf.out (by omega)
    simp only [Value.slice.injEq] at hvv
    obtain ⟨rfl, _, rfl⟩ := hvv
    have HB8 := Lib.hid Bl.out
    obtain ⟨b, off, rv, rfl, cr, hsrc⟩ := HS.out.at Bl.out hkn
    obtain ⟨b', off', a2, cap2, e', c2, hl2, hin⟩ := (HV.out.below Bl.out).row (i := k) hkn
    simp only [Option.some.injEq, Addr.mk.injEq, and_true] at e'
    obtain ⟨rfl, rfl⟩ := e'
    obtain rfl : rv = .slice a2 (H k).length cap2 := Option.some.inj (cr.symm.trans c2)
    obtain ⟨a1, a2b, a3, a4, a5, a6, a7, a8, a9⟩ := Fi.out.rd _ (List.mem_of_getElem? hrow)
    have cf0 := Fi.out.f k _ hrow
    have hIfull : Ints wr (.slice (some ⟨g, 0, none⟩) (H k).length cap) (H k) := by
      by_cases h0 : H k = []
      · exact .inl ⟨_, _, by rw [h0]; rfl, h0⟩
      · have hb8 := HR.out k
        exact .inr ⟨g, 0, cap, List.length_pos_iff.2 h0, by omega, rfl, fun j hj => by rw [Nat.zero_add]; exact a7 j hj⟩
    have Iq := Lib.hid hIfull
    have Jq := Lib.hid hin
    have Hsrc := Lib.hid hsrc
    have Hrow := Lib.hid hrow
    have cfull : wr.cell? ⟨gf, k, none⟩ = some (.slice (some ⟨g, 0, none⟩) ((H k).length + 1) cap) := cf0
    have c77 : wr.cell? ⟨g, (H k).length, none⟩ = some (.int .i64 77) := a8
    have hb8 := HR.out k
    have hc5 : (H k).length + 1 ≤ cap := a5
    have hc6 : cap ≤ 9223372036854775807 := a6
    have gB : g < w8.heap.size := a2b
    obtain ⟨L, hL⟩ : ∃ L, (H k).length = L := ⟨_, rfl⟩
    have HL := Lib.hid hL
    have HLM := Lib.hid (show ((H k).map (Value.int .i64)).length = L by rw [List.length_map]; exact hL)
    rw [hL] at cr cfull c77 hb8 hc5 hl2 Iq Jq Hsrc
    have l1 : (k : Int) < (n : Int) := by omega
    have l2 : (0 : Int) ≤ (k : Int) := by omega
    have l3 : (L : Int) ≤ (cap : Int) := by omega
    have l4 : (0 : Int) ≤ (L : Int) := by omega
    have l5 : (L : Int) < (L : Int) + 1 := by omega
    have l6 : L ≤ cap := by omega
    have p0 : IntKind.i64.wrap (L : Int) = (L : Int) := IntWalk.i64_in _ (by omega)
    have p1 : IntKind.i64.wrap ((L : Int) + 1 - 1) = (L : Int) := by rw [show (L : Int) + 1 - 1 = (L : Int) by omega]; exact p0
    clear hL hin hIfull hsrc hrow cf0 c2 a1 a2b a3 a4 a5 a6 a7 a8 a9 hi'
    go_wp2_with fail
    go_quiet ((go_at_call 17; exact quiet_ints Iq.out Jq.out _))
    clear p0 p1
    have Tm1 := Lib.hid (Tm.out.below (below_drewN (Below.refl _ _) nq))
    have Fi1 := Lib.hid (Fi.out.below (below_drewN (Below.refl _ _) nq))
    have Bl1 := Lib.hid (below_drewN Bl.out nq)
    have Sr1 := Lib.hid (src_below Hsrc.out (below_drewN (Below.refl _ _) nq))
    have cr1 : (wr.drewN nq).cell? ⟨b, off + k, none⟩ = some (.slice a2 L cap2) := cr
    have Sz1 : Hid (w8.heap.size ≤ (wr.drewN nq).heap.size) := Lib.hid Sz.out
    clear Tm Fi Bl Hsrc Sz cr cfull c77 Iq Jq HB8
    generalize wr.drewN nq = wr at *
    have own0 := Lib.hid (World.ownsRow_nil wr wr.heap.size 3 1)
    have A1 := Lib.hid (show ∀ u ∈ (H k).map (Value.int .i64), u.oneCell' = true from fun u hu => by obtain ⟨k, _, rfl⟩ := List.mem_map.1 hu; rfl)
    have A2 := Lib.hid (show 0 + ((H k).map (Value.int .i64)).length ≤ maxLen by rw [HLM.out]; unfold maxLen; omega)
    have A3 := Lib.hid (show (0 + ((H k).map (Value.int .i64)).length) * 8 ≤ 140737488355328 by rw [HLM.out]; omega)
    have C1k := Lib.hid (show k + 1 ≤ maxLen by unfold maxLen; omega)
    have C2k := Lib.hid (show (k + 1) * 24 ≤ 140737488355328 by omega)
    go_wp2_with (at_builtin; go_loud (refine wpList_appSrc _ rfl _ _ 36 rfl wr.heap.size 3 (.int .i64 0) 8 Try.underlying36 info3 rfl _ _ _ rfl own0.out _ _ rfl Sr1.out A1.out A2.out A3.out (Nat.le_refl _) ?_); intro v15 w9 own9 bel9; rw [Nat.zero_add, HLM.out, List.nil_append] at own9; have Alt := Lib.hid (own_rowalt own9); have Tm9 := Lib.hid (Tm1.out.below bel9); have Fi9 := Lib.hid (Fi1.out.below (bel9.mono Sz1.out)); have Bl9 := Lib.hid (Bl1.out.trans (bel9.mono Bl1.out.size)); have Sz9 := Lib.hid (Nat.le_trans Sz1.out bel9.size); have Sw9 := Lib.hid Sz1.out; have Vb9 := Lib.hid (show ∀ b, vt.ownBlock = some b → b < wr.heap.size from fun b hb => (Tm1.out.own.lt b hb).2); have Rb9 := Lib.hid (show ∀ r, r ∈ trs → ∀ b, r.1.ownBlock = some b → b < wr.heap.size from fun r hr b hb => by
      rcases Tm1.out.rd r hr with ⟨e, _⟩ | ⟨b', c', e, _, _, h4, _⟩
      · rw [e] at hb; cases hb
      · rw [e] at hb; cases hb; exact h4); clear own9 bel9)
    rcases Alt.out with ⟨rfl, h0⟩ | ⟨g2, c15, rfl, hg2, hrw⟩
    · have HK0 : Hid (H k = []) := Lib.hid (List.eq_nil_of_length_eq_zero (by rw [HL.out]; exact h0))
      have ot := Tm9.out.own
      rw [HKt.out] at ot
      have Ot := Lib.hid ot
      clear ot Alt h0
      refine wp_loop_rounds 1 ?_
      rw [rounds_succ]
      go_wp2_with (at_builtin; go_loud (refine wpList_appFar _ rfl _ _ 35 rfl w8.heap.size 36 (.slice none 0 0) 24 Try.underlying35 info36 rfl _ _ _ rfl (Ot.out.alloc _) w9.heap.size (.slice none 0 0) rfl (cell1_new _ _ _) rfl C1k.out C2k.out (Nat.le_trans Sz9.out (size_alloc_le _ _)) ?_); intro v16 w16 own16 gr16 bel16 ob16)
      have Tn := Tm9.out.add (ys := []) (.inl ⟨rfl, rfl⟩) (by rw [HKt.out]; exact own16) gr16 ob16
      have Fn16 := Fi9.out.below (below_alloc1 Sz9.out bel16)
      exact ⟨⟨_, trs ++ [(.slice none 0 0, [])], rows2, rfl, by rw [List.length_append, HKt.out]; exact hkn, by rw [List.length_append, HKt.out]; rfl, Tn, Fn16, by
        have hrn := rel_next (v := .slice none 0 0) (ys := []) Hr2.out HKt.out Hrow.out
        rw [← HK0.out, set_self Hrow.out, HK0.out] at hrn
        exact hrn, Bl9.out.trans ((below_alloc1 Sz9.out bel16).mono B58.out.size), Nat.le_trans Sz9.out (Nat.le_trans (size_alloc_le _ _) bel16.size)⟩, by simp [intOf]; omega⟩
    · have Rw0 := Lib.hid hrw
      have Fi0 : Hid (Fin2 w.heap.size w8.heap.size w9 gl gf n (rows2.set k (g, cap, H k))) := Lib.hid (by rw [set_self Hrow.out]; exact Fi9.out)
      have g2B : w8.heap.size ≤ g2 := Nat.le_trans Sw9.out hg2
      clear hrw Alt
      go_loopw [16] (fun jv wr2 => ∃ (j : Nat) (ys : List Int), j ≤ L ∧ jv = .int .i64 j ∧ ys.length = L ∧ Row wr2 g2 ys ∧ Fin2 w.heap.size w8.heap.size wr2 gl gf n (rows2.set k (g, cap, ys)) ∧ TM w8.heap.size wr2 vt trs ∧ Below w.heap.size w wr2 ∧ w8.heap.size ≤ wr2.heap.size) (fun jv _ => L - (intOf jv).toNat)
      case atStart => exact ⟨0, H k, Nat.zero_le _, rfl, HL.out, Rw0.out, Fi0.out, Tm9.out, Bl9.out, Sz9.out⟩
      clear Rw0 Fi0 Tm9 Fi9 Bl9 Sz9 cr1 Sr1
      obtain ⟨j, ys, hj, rfl, hys, hrw, hfi, htm, hbl, hsz⟩ := hrel
      have Ys := Lib.hid hys
      have Rw := Lib.hid hrw
      have Fi := Lib.hid hfi
      have Tm := Lib.hid htm
      have Bl := Lib.hid hbl
      have Sz := Lib.hid hsz
      clear hys hrw hfi htm hbl hsz
      have hkl : k < rows2.length := (List.getElem?_eq_some_iff.1 Hrow.out).1
      have Hset := Lib.hid (show (rows2.set k (g, cap, ys))[k]? = some (g, cap, ys) from List.getElem?_set_self hkl)
      clear hkl
      by_cases hjL : j < L
      · have c2 := Rw.out.1 j (by rw [Ys.out]; exact hjL)
        have fz2 := Rw.out.2.1
        obtain ⟨_, _, _, _, _, _, a7, _, a9⟩ := Fi.out.rd _ (List.mem_of_getElem? Hset.out)
        have cg : wr.cell? ⟨g, j, none⟩ = some (.int .i64 (ys.getD j 0)) := a7 j (by show j < ys.length; rw [Ys.out]; exact hjL)
        have fz := a9
        have cf0 := Fi.out.f k _ Hset.out
        have cfull : wr.cell? ⟨gf, k, none⟩ = some (.slice (some ⟨g, 0, none⟩) (ys.length + 1) cap) := cf0
        rw [Ys.out] at cfull
        obtain ⟨x1, hx1⟩ : ∃ x, ys.getD j 0 = x := ⟨_, rfl⟩
        rw [hx1] at c2 cg
        have j1 : (j : Int) < (L : Int) := by omega
        have j2 : (0 : Int) ≤ (j : Int) := by omega
        have j3 : (j : Int) < (L : Int) + 1 := by omega
        have gg : ¬ g = g2 := by omega
        have gg2 : ¬ g2 = g := by omega
        have gfB := Fi.out.glt.2 (by omega)
        have gg3 : ¬ gf = g2 := by omega
        have gg4 : ¬ g2 = gf := by omega
        clear a7 a9 cf0 hx1
        go_wp2_with fail
        generalize (wrap64 ((wrap64 (x1 + 7 * (j : Int))).tdiv 2)) = z at *
        have R10 := Lib.hid (Rw.out.store (k := j) (by rw [Ys.out]; exact hjL) z)
        have bst : Below w8.heap.size wr (wr.setCell ⟨g2, j, none⟩ (.int .i64 z)) := (Below.refl _ _).setCell g2B _
        have F10 := Lib.hid (Fi.out.below bst)
        have T10 := Lib.hid (Tm.out.storeRow (g := g2) (j := j) (fun c => by have := Vb9.out g2 c; omega) (fun r hr c => by have := Rb9.out r hr g2 c; omega) (.int .i64 z))
        have B10 := Lib.hid (Bl.out.setCell (p := ⟨g2, j, none⟩) (by have := B58.out.size; show w.heap.size ≤ g2; omega) (.int .i64 z))
        have S10 : Hid (w8.heap.size ≤ (wr.setCell ⟨g2, j, none⟩ (.int .i64 z)).heap.size) := Lib.hid (by simp [World.setCell]; exact Sz.out)
        have c10 : (wr.setCell ⟨g2, j, none⟩ (.int .i64 z)).cell? ⟨g2, j, none⟩ = some (.int .i64 z) := World.cell?_setCell_same _ _ _ c2
        have f10 : (wr.setCell ⟨g2, j, none⟩ (.int .i64 z)).cell? ⟨gf, k, none⟩ = some (.slice (some ⟨g, 0, none⟩) (L + 1) cap) := by rw [World.cell?_setCell_other _ _ _ _ (fun c => gg4 (congrArg Addr.block c))]; exact cfull
        have g10 : (wr.setCell ⟨g2, j, none⟩ (.int .i64 z)).cell? ⟨g, j, none⟩ = some (.int .i64 x1) := by rw [World.cell?_setCell_other _ _ _ _ (fun c => gg2 (congrArg Addr.block c))]; exact cg
        have z10 : ∀ i, (wr.setCell ⟨g2, j, none⟩ (.int .i64 z)).frozen? ⟨g, i, none⟩ = false := fun i => by rw [World.frozen?_setCell]; exact fz i
        clear c2 fz2 cg fz cfull bst Rw Fi Tm Bl Sz
        generalize wr.setCell ⟨g2, j, none⟩ (.int .i64 z) = w10 at *
        refine region_tail 10 (by kernel_rfl) (by kernel_rfl) ?_
        simp only [List.take_succ_cons, List.take_zero, List.drop_succ_cons, List.drop_zero]
        repeat still_step
        refine wpStill_nil ?_
        have Fst := F10.out.store Hset.out (by rw [Ys.out]; exact hjL) z
        rw [List.set_set] at Fst
        have Fst := Lib.hid Fst
        go_wp2_with fail
        exact ⟨⟨j + 1, ys.set j z, by omega, by go_num, by rw [List.length_set]; exact Ys.out, (R10.out.other gg2 (.int .i64 z)).below ((Below.refl _ _).drew), Fst.out.below ((Below.refl _ _).drew), (T10.out.store gB (.int .i64 z)).below ((Below.refl _ _).drew), (B10.out.setCell (by show w.heap.size ≤ g; exact (Fst.out.rd (g, cap, ys.set j z) (List.mem_of_getElem? (List.getElem?_set_self (List.getElem?_eq_some_iff.1 Hrow.out).1))).1) _).drew, by simp [World.setCell]; exact S10.out⟩, by simp [intOf]; omega⟩
      obtain rfl : L = j := by omega
      have ot := Tm.out.own
      rw [HKt.out] at ot
      have Ot := Lib.hid ot
      clear ot
      go_wp2_with (at_builtin; go_loud (refine wpList_appFar _ rfl _ _ 35 rfl w8.heap.size 36 (.slice none 0 0) 24 Try.underlying35 info36 rfl _ _ _ rfl (Ot.out.alloc _) wr.heap.size (.slice (some ⟨g2, 0, none⟩) L c15) rfl (cell1_new _ _ _) rfl C1k.out C2k.out (Nat.le_trans Sz.out (size_alloc_le _ _)) ?_); intro v16 w16 own16 gr16 bel16 ob16)
      have Tn := Tm.out.add (ys := ys) (.inr ⟨g2, c15, by rw [Ys.out], by rw [Ys.out]; omega, g2B, Rw.out.2.2, fun c => by have := Vb9.out g2 c; omega, fun j hj => Rw.out.1 j hj⟩) (by rw [HKt.out]; exact own16) gr16 ob16
      have Fn16 := Fi.out.below (below_alloc1 Sz.out bel16)
      exact ⟨⟨_, trs ++ [(.slice (some ⟨g2, 0, none⟩) L c15, ys)], rows2.set k (g, cap, ys), rfl, by rw [List.length_append, HKt.out]; exact hkn, by rw [List.length_append, HKt.out]; rfl, Tn, Fn16, rel_next Hr2.out HKt.out Hrow.out, Bl.out.trans ((below_alloc1 Sz.out bel16).mono B58.out.size), Nat.le_trans Sz.out (Nat.le_trans (size_alloc_le _ _) bel16.size)⟩, by simp [intOf]; omega⟩
  obtain rfl : n = k := by omega
  have RL := Lib.hid (Fi.out.rows2 (cl := cl) Sz.out hm)
  have hpast : ∀ i, n ≤ i → rwM rows2 i = [] := fun i hi => rwM_past (by rw [Fi.out.len]; exact hi)
  have HP := Lib.hid hpast
  have heq : rowsM trs = rwM rows2 := by
    funext i
    by_cases hi : i < n
    · have hi' : i < rows2.length := by rw [Fi.out.len]; exact hi
      have hg := List.getElem?_eq_getElem hi'
      obtain ⟨tr, t1, t2⟩ := (Hr2.out i _ hg).1 (by rw [HKt.out]; exact hi)
      rw [rwM_at hg, ← t2]
      unfold rowsM
      rw [List.getD_eq_getElem?_getD, t1]; rfl
    · rw [hpast i (by omega)]
      unfold rowsM
      rw [List.getD_eq_getElem?_getD, List.getElem?_eq_none (by rw [HKt.out]; omega)]; rfl
  have rt := Tm.out.rows2 HKt.out hm
  rw [heq] at rt
  have RT := Lib.hid rt
  obtain ⟨M2, hM2⟩ : ∃ M, rwM rows2 = M := ⟨_, rfl⟩
  rw [hM2] at RL RT HP
  clear hpast heq rt hM2 Tm Fi Hr2
  go_wp2_with fail
  refine (trip_all _ n M2 wr RL.out HP.out).mono ?_
  rintro e w6 ⟨tl2, rfl, itl, bel6⟩
  obtain ⟨A2, hA⟩ : ∃ A, (TA n M2).1 = A := ⟨_, rfl⟩
  obtain ⟨x2, hx⟩ : ∃ x, (TA n M2).2.1 = x := ⟨_, rfl⟩
  obtain ⟨y2, hy⟩ : ∃ y, (TA n M2).2.2 = y := ⟨_, rfl⟩
  rw [hA] at itl
  rw [hx, hy]
  have HAy := Lib.hid (And.intro hA (And.intro hx hy))
  have I6 := Lib.hid itl
  have B6 := Lib.hid bel6
  clear hA hx hy itl bel6
  go_wp2_with fail
  refine (reftrip_all vt n M2 w6 (RT.out.below B6.out) HP.out).mono ?_
  rintro e w7 ⟨rl2, rfl, irl, bel7⟩
  rw [HAy.out.1] at irl
  rw [HAy.out.2.1, HAy.out.2.2]
  have I7 := Lib.hid (I6.out.below bel7)
  have J7 := Lib.hid irl
  have B7 := Lib.hid (B6.out.trans (bel7.mono B6.out.size))
  clear irl bel7
  go_wp2_with fail
  refine (ints_any _ _ A2 w7 I7.out J7.out).mono ?_
  rintro e w10 ⟨rfl, m10, rfl⟩
  have B10 := Lib.hid (B7.out.trans (below_drewN (Below.refl _ _) m10))
  clear I7 J7 B7 I6 B6
  generalize w7.drewN m10 = w10 at *
  have f1 : (x2 == x2) = true := by simp
  have f2 : (y2 == y2) = true := by simp
  go_wp2_with fail
  go_ret
  exact ⟨rfl, Bl.out.trans (B10.out.mono Bl.out.size)⟩
end Go.Proofs.Ytomcdnkafgmleaa
