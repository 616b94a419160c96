/- The document's Trip over more than one stop. -/
import Derived.Test.YtomcdnkafgmleaaV2
namespace Go.Proofs.Ytomcdnkafgmleaa
open Go.RowKit

theorem best_one (far : Nat → Nat → Int) (Rf : Nat → Nat → Int) (s a : Nat) : bestTo far Rf s a 1 = -1 := by
  show (if 0 = 0 ∨ s / 2 ^ 0 % 2 = 0 then bestTo far Rf s a 0 else _) = -1
  rw [if_pos (.inl rfl)]; rfl
theorem best_skip {far : Nat → Nat → Int} {Rf : Nat → Nat → Int} {s a k : Nat} (h : s / 2 ^ k % 2 = 0) : bestTo far Rf s a (k + 1) = bestTo far Rf s a k := by
  conv => lhs; unfold bestTo
  rw [if_pos (.inr h)]
theorem best_take {far : Nat → Nat → Int} {Rf : Nat → Nat → Int} {s a k : Nat} (h0 : k ≠ 0) (h : s / 2 ^ k % 2 = 1) : bestTo far Rf s a (k + 1) = if bestTo far Rf s a k < 0 ∨ far a k + Rf (s - 2 ^ k) k < bestTo far Rf s a k then far a k + Rf (s - 2 ^ k) k else bestTo far Rf s a k := by
  conv => lhs; unfold bestTo
  rw [if_neg (by omega)]

theorem TR.drew {w0 w : World} {p n N : Nat} {far : Nat → Nat → Int} {made s k : Nat} (h : TR w0 w p n N far made s k) : TR w0 w.drew p n N far made s k :=
  ⟨h.below.drew, h.old, h.size, h.fzp, h.exp, h.row, h.fzr, h.exr, h.val⟩
/-- the whole table -/
structure Tbl (w : World) (p n N : Nat) (far : Nat → Nat → Int) : Prop where
  size : p + 1 + N ≤ w.heap.size
  row : ∀ s', s' < N → w.cell? ⟨p, s', none⟩ = some (.slice (some ⟨p + 1 + s', 0, none⟩) n n)
  val : ∀ s' j, s' < N → j < n → w.cell? ⟨p + 1 + s', j, none⟩ = some (.int .i64 (R far n s' j))
theorem TR.tbl {w0 w : World} {p n N : Nat} {far : Nat → Nat → Int} (h : TR w0 w p n N far N N 0) : Tbl w p n N far :=
  ⟨by rw [h.size]; exact Nat.le_refl _, h.row, fun s' j h1 h2 => h.val s' j h2 h1 (.inl h1)⟩
theorem Tbl.below {w w' : World} {p n N : Nat} {far : Nat → Nat → Int} (h : Tbl w p n N far) (hb : Below w.heap.size w w') : Tbl w' p n N far :=
  ⟨Nat.le_trans h.size hb.size, fun s' hs => by rw [hb.cell (p := ⟨p, s', none⟩) (by have := h.size; show p < _; omega)]; exact h.row s' hs, fun s' j hs hj => by rw [hb.cell (p := ⟨p + 1 + s', j, none⟩) (by have := h.size; show p + 1 + s' < _; omega)]; exact h.val s' j hs hj⟩
theorem pow_i64 {c e : Nat} (h : 2 ^ c = e) (he : e ≤ 4096) : IntKind.i64.wrap ((2 : Int) ^ c) = (e : Int) := by
  rw [show ((2 : Int) ^ c) = ((2 ^ c : Nat) : Int) by rw [Int.natCast_pow]; rfl, h]
  exact IntWalk.i64_in _ (by omega)
theorem pow_w64 {c e : Nat} (h : 2 ^ c = e) (he : e ≤ 4096) : wrap64 ((2 : Int) ^ c) = (e : Int) := by
  rw [show ((2 : Int) ^ c) = ((2 ^ c : Nat) : Int) by rw [Int.natCast_pow]; rfl, h]
  exact IntWalk.wrap64_in _ ⟨by omega, by omega⟩

set_option maxRecDepth 100000 in
set_option maxHeartbeats 8000000 in
theorem reftrip_ok (v : Value) (n : Nat) (M : Nat → List Int) (far : Nat → Nat → Int) (hfar : ∀ i j, far i j = (M i).getD j 0) (w : World) (hv : Rows2 w v n M) (h2 : 2 ≤ n) (hn : n ≤ 12) (hgood : ∀ i, i < n → okRow n (M i)) (hM : ∀ i, n ≤ i → M i = []) :
    Calls Try.prog 16 #[v] w fun e w' => ∃ l, e = .returned (.tuple #[l, .int .i64 (T far n 1 0).1, .int .i64 0]) ∧ w'.ownsRow w.heap.size 3 1 l (0 :: tour far n (2 ^ n) 1 0).length ((0 :: tour far n (2 ^ n) 1 0).map (Value.int .i64)) ∧ Below w.heap.size w w' := by
  obtain ⟨a, cap, rfl, hm⟩ := hv.form
  obtain ⟨b, off, _, _, rfl, _⟩ := hv.row (i := 0) (by omega)
  have HB : Hid (∀ i j, 0 ≤ far i j ∧ far i j ≤ 1000000000) := Lib.hid fun i j => by rw [hfar]; exact far_bound hgood hM i j
  have HFar := Lib.hid hfar
  have HV := Lib.hid hv
  have HG := Lib.hid hgood
  obtain ⟨N, hN⟩ : ∃ N, 2 ^ n = N := ⟨_, rfl⟩
  have hN1 : N ≤ 4096 := by
    have h1 : 2 ^ n ≤ 2 ^ 12 := Nat.pow_le_pow_right (by omega) hn
    have h12 : (2 : Nat) ^ 12 = 4096 := by decide
    omega
  have hN4 : 4 ≤ N := by
    have h1 : 2 ^ 2 ≤ 2 ^ n := Nat.pow_le_pow_right (by omega) h2
    omega
  have hwN : wrap64 (2 ^ n) = (N : Int) := by
    have h1 : ((2 : Int) ^ n) = ((N : Nat) : Int) := by rw [← hN, Int.natCast_pow]; rfl
    rw [h1]; exact IntWalk.wrap64_in _ ⟨by omega, by omega⟩
  have HN := Lib.hid hN
  have mk1 : ∀ w : World, (Instr.makeSlice 35 (.int .i64 (N : Int)) (.int .i64 (N : Int))).run Try.prog w = .ok (.slice (some ⟨w.heap.size, 0, none⟩) N N) (w.alloc (.cells (madeCells #[.slice none 0 0] N) 36)) :=
    run_make_row' 35 36 (.slice none 0 0) 24 Try.underlying35 info36 rfl .i64 .i64 N (by omega) (by omega)
  have mk2 : ∀ w : World, (Instr.makeSlice 36 (.int .i64 (n : Int)) (.int .i64 (n : Int))).run Try.prog w = .ok (.slice (some ⟨w.heap.size, 0, none⟩) n n) (w.alloc (.cells (madeCells #[.int .i64 0] n) 3)) :=
    run_make_row' 36 3 (.int .i64 0) 8 Try.underlying36 info3 rfl .i64 .i64 n (by omega) (by omega)
  have TS := Lib.hid (TR.start w n N far)
  clear hv hgood hM hfar hN
  go_enter Try.func16, Try.ntmps16
  go_wp2_with fail
  go_loop [6] (fun i => ∃ k : Nat, k ≤ n ∧ i = .int .i64 k) (fun i => n - (intOf i).toNat)
  case atStart => exact ⟨0, Nat.zero_le _, rfl⟩
  obtain ⟨k, hk, rfl⟩ := hrel
  by_cases hlt : k < n
  case pos =>
    have z1 : (k : Int) < (n : Int) := by omega
    have z2 : (0 : Int) ≤ (k : Int) := by omega
    have Gk := Lib.hid (HG.out k hlt)
    obtain ⟨b', off', a2, cap2, e', c, hl, _⟩ := HV.out.row (i := k) (by omega)
    simp only [Option.some.injEq, Addr.mk.injEq, and_true] at e'
    obtain ⟨rfl, rfl⟩ := e'
    rw [Gk.out.1] at c
    clear mk1 mk2 hwN
    go_wp2_with fail
    go_loop [7] (fun i => ∃ j : Nat, j ≤ n ∧ i = .int .i64 j) (fun i => n - (intOf i).toNat)
    case atStart => exact ⟨0, Nat.zero_le _, rfl⟩
    obtain ⟨j, hj, rfl⟩ := hrel
    by_cases hjn : j < n
    · obtain ⟨b', off', b2, off2, cap3, e', c1, c2⟩ := HV.out.num (i := k) (j := j) (by omega) (by rw [Gk.out.1]; exact hjn)
      simp only [Option.some.injEq, Addr.mk.injEq, and_true] at e'
      obtain ⟨rfl, rfl⟩ := e'
      rw [Gk.out.1] at c1
      have hx := ok_bounds (ok_get Gk.out hjn)
      obtain ⟨x, hxx⟩ : ∃ x, (M k).getD j 0 = x := ⟨_, rfl⟩
      rw [hxx] at c2 hx
      have g1 : decide (x < 0) = false := by simp; omega
      have g2 : decide (1000000000 < x) = false := by simp; omega
      clear hxx c
      go_wp2_with fail
      go_round
      case rel => exact ⟨j + 1, by omega, by go_num⟩
      case measure => simp [intOf]; omega
    obtain rfl : n = j := by omega
    go_wp2_with fail
    go_round
    case rel => exact ⟨k + 1, by omega, by go_num⟩
    case measure => simp [intOf]; omega
  obtain rfl : n = k := by omega
  go_wp2_with fail
  generalize w.alloc (.cells (madeCells #[.slice none 0 0] N) 36) = w1 at *
  have hp0 := TS.out.old
  generalize hpp : w.heap.size = p at TS hp0 ⊢
  have hps := Lib.hid hpp
  have TS0 := Lib.hid (show TR w w1 p n N far 0 0 0 from TS.out)
  clear hpp hp0 TS hwN mk1
  go_loopw [10] (fun i wr => ∃ s : Nat, s ≤ N ∧ i = .int .i64 s ∧ TR w wr p n N far s s 0) (fun i _ => N - (intOf i).toNat)
  case atStart => exact ⟨0, Nat.zero_le _, rfl, TS0.out⟩
  clear TS0
  obtain ⟨s, hs, rfl, tr⟩ := hrel
  have Ts := Lib.hid tr
  clear tr
  by_cases hsN : s < N
  case pos =>
    obtain ⟨u, hu⟩ := Ts.out.exp s hsN
    have fz := Ts.out.fzp
    have z1 : (s : Int) < (N : Int) := by omega
    have z2 : (0 : Int) ≤ (s : Int) := by omega
    have pl : p < wr.heap.size := by have := Ts.out.size; omega
    have tm := Ts.out.make hsN
    rw [World.setCell_alloc_past _ _ _ _ pl] at tm
    have TM := Lib.hid tm
    clear tm
    have pne : ¬ wr.heap.size = p := by omega
    have pne2 : ¬ p = wr.heap.size := by omega
    have hu2 : (wr.alloc (.cells (madeCells #[.int .i64 0] n) 3)).cell? ⟨p, s, none⟩ = some u := by rw [(bel_alloc wr (.cells (madeCells #[.int .i64 0] n) 3)).cell (p := ⟨p, s, none⟩) pl]; exact hu
    have fz2 : ∀ i, (wr.alloc (.cells (madeCells #[.int .i64 0] n) 3)).frozen? ⟨p, i, none⟩ = false := fun i => by rw [(bel_alloc wr (.cells (madeCells #[.int .i64 0] n) 3)).frozen (p := ⟨p, i, none⟩) pl]; exact fz i
    clear hu fz
    go_wp2_with fail
    go_loopw [11] (fun i wr2 => ∃ k : Nat, k ≤ n ∧ i = .int .i64 k ∧ TR w wr2 p n N far (s + 1) s k) (fun i _ => n - (intOf i).toNat)
    case atStart => exact ⟨0, Nat.zero_le _, rfl, TM.out⟩
    clear TM hu2 fz2 pne pne2 pl mk2
    obtain ⟨k, hk, rfl, trk⟩ := hrel
    have Tk := Lib.hid trk
    clear trk
    by_cases hkn : k < n
    case pos =>
      have kz1 : (k : Int) < (n : Int) := by omega
      have kz2 : (0 : Int) ≤ (k : Int) := by omega
      have crow := Tk.out.row s (by omega)
      obtain ⟨u2, hu2⟩ := Tk.out.exr s k (by omega) hkn
      have fz := fun i => Tk.out.fzr s i (by omega)
      by_cases hs0 : s = 0
      · have f0 : ((s : Int) == 0) = true := by simp [hs0]
        obtain ⟨b', off', b2, off2, cap3, e', c1, c2⟩ := (HV.out.below Tk.out.below).num (i := k) (j := 0) hkn (by rw [(HG.out k hkn).1]; omega)
        simp only [Option.some.injEq, Addr.mk.injEq, and_true] at e'
        obtain ⟨rfl, rfl⟩ := e'
        rw [(HG.out k hkn).1] at c1
        rw [← HFar.out, Nat.add_zero] at c2
        have St := Tk.out.store hkn
        have hR : R far n s k = far k 0 := by rw [hs0, R_zero]
        rw [hR] at St
        have St := Lib.hid St
        obtain ⟨x, hx⟩ : ∃ x, far k 0 = x := ⟨_, rfl⟩
        rw [hx] at c2 St
        have nz : (0 : Int) < (n : Int) := by omega
        have nz2 : 0 < n := by omega
        clear hx hR hs0
        go_wp2_with fail
        refine region_tail 12 (by kernel_rfl) (by kernel_rfl) ?_
        simp only [List.take_succ_cons, List.take_zero, List.drop_succ_cons, List.drop_zero]
        repeat still_step
        refine wpStill_nil ?_
        go_wp2_with fail
        exact ⟨⟨k + 1, by omega, by go_num, St.out.drew⟩, by simp [intOf]; omega⟩
      · have f0 : ((s : Int) == 0) = false := by
          have : ¬ (s : Int) = 0 := by omega
          simpa using this
        obtain ⟨w9, rfl⟩ : ∃ w9, w9 = wr := ⟨_, rfl⟩
        go_wp2_with fail
        go_loopw [12, 13] (fun bv kv wr2 => ∃ (c m : Nat), 1 ≤ c ∧ c ≤ n ∧ kv = .int .i64 c ∧ bv = .int .i64 (bestTo far (R far n) s k c) ∧ wr2 = w9.drewN m) (fun _ kv _ => n - (intOf kv).toNat)
        case atStart => exact ⟨1, 0, Nat.le_refl _, by omega, rfl, by rw [best_one], rfl⟩
        obtain ⟨c, m, hc1, hcn, rfl, rfl, rfl⟩ := hrel
        have Tc := Lib.hid (Tk.out.drewN m)
        have bb := best_bound (far := far) (Rf := R far n) (B := 1000000000 * ((s : Int) + 1)) (s := s) (a := k) HB.out (by omega) (fun k' _ => R_bound (far := far) n HB.out s _ k' (Nat.sub_le _ _)) c
        have bb2 : 1000000000 * ((s : Int) + 1) ≤ 4096000000000 := by omega
        obtain ⟨bv, hbv⟩ : ∃ x, bestTo far (R far n) s k c = x := ⟨_, rfl⟩
        have Hbv := Lib.hid hbv
        rw [hbv] at bb
        rw [hbv]
        by_cases hcn2 : c < n
        case pos =>
          have b3 := and_i64 (s / 2 ^ c) (by have := Nat.div_le_self s (2 ^ c); omega)
          have ec : ((s / 2 ^ c : Nat) : Int) = (s : Int) / 2 ^ c := by rw [Int.natCast_ediv, Int.natCast_pow]; rfl
          rw [ec] at b3
          clear ec
          rcases (by omega : s / 2 ^ c % 2 = 0 ∨ s / 2 ^ c % 2 = 1) with e3 | e3
          · have f4 : (bits BinOp.and IntKind.i64 ((s : Int) / 2 ^ c) 1 == 0) = true := by rw [b3, e3]; rfl
            have HS := Lib.hid (best_skip (far := far) (Rf := R far n) (a := k) e3)
            clear b3 hbv
            go_wp2_with fail
            exact ⟨⟨c + 1, m, by omega, by omega, by go_num, by rw [HS.out, Hbv.out], rfl⟩, by simp [intOf]; omega⟩
          · have f4 : (bits BinOp.and IntKind.i64 ((s : Int) / 2 ^ c) 1 == 0) = false := by rw [b3, e3]; rfl
            have HT := best_take (far := far) (Rf := R far n) (s := s) (a := k) (k := c) (by omega) e3
            obtain ⟨b', off', b2, off2, cap3, e', c1, c2⟩ := (HV.out.below Tk.out.below).num (i := k) (j := c) hkn (by rw [(HG.out k hkn).1]; omega)
            simp only [Option.some.injEq, Addr.mk.injEq, and_true] at e'
            obtain ⟨rfl, rfl⟩ := e'
            rw [(HG.out k hkn).1] at c1
            rw [← HFar.out] at c2
            have hle := bit_le e3
            have hpos := Nat.two_pow_pos c
            obtain ⟨e, he⟩ : ∃ e, 2 ^ c = e := ⟨_, rfl⟩
            have p1 := pow_i64 he (by omega)
            rw [he] at HT hle hpos
            obtain ⟨q, hq⟩ : ∃ q, s - e = q := ⟨_, rfl⟩
            have p2 : IntKind.i64.wrap ((s : Int) - (e : Int)) = (q : Int) := by rw [IntWalk.i64_in _ (by omega)]; omega
            have qr := Tk.out.row q (by omega)
            have qv := Tk.out.val q c (by omega) (by omega) (.inl (by omega))
            rw [hq] at HT
            have qb := R_bound (far := far) n HB.out s q c (by omega)
            have xb := HB.out k c
            obtain ⟨x, hx⟩ : ∃ x, far k c = x := ⟨_, rfl⟩
            obtain ⟨y, hy⟩ : ∃ y, R far n q c = y := ⟨_, rfl⟩
            rw [hx] at c2 HT xb
            rw [hy] at qv HT qb
            rw [hbv] at HT
            have p3 : IntKind.i64.wrap (x + y) = x + y := IntWalk.i64_in _ (by omega)
            have HT := Lib.hid HT
            have q1 : (q : Int) < (N : Int) := by omega
            have q2 : (0 : Int) ≤ (q : Int) := by omega
            have q3 : (c : Int) < (n : Int) := by omega
            have q4 : (0 : Int) ≤ (c : Int) := by omega
            clear b3 hbv hle hpos he hq hx hy crow hu2 fz
            go_wp2_with fail
            go_quiet (fail)
            clear p1 p2 p3 qr qv c1 c2
            by_cases hB : bv < 0
            · go_wp2_with fail
              exact ⟨⟨c + 1, _, by omega, by omega, by go_num, by rw [HT.out, if_pos (.inl hB)], rfl⟩, by simp [intOf]; omega⟩
            · by_cases hxy : x + y < bv
              · go_wp2_with fail
                exact ⟨⟨c + 1, _, by omega, by omega, by go_num, by rw [HT.out, if_pos (.inr hxy)], rfl⟩, by simp [intOf]; omega⟩
              · go_wp2_with fail
                exact ⟨⟨c + 1, _, by omega, by omega, by go_num, by rw [HT.out, if_neg (by omega)], rfl⟩, by simp [intOf]; omega⟩
        obtain rfl : n = c := by omega
        have HR := R_step far n s k hs0
        rw [hbv] at HR
        clear hbv
        by_cases hB : bv < 0
        · rw [if_pos hB] at HR
          have St := (Tc.out.scratch hkn (.int .i64 bv)).store hkn
          rw [HR] at St
          have St := Lib.hid St
          clear HR
          go_wp2_with fail
          exact ⟨⟨k + 1, by omega, by go_num, St.out⟩, by simp [intOf]; omega⟩
        · rw [if_neg hB] at HR
          have St := Tc.out.store hkn
          rw [HR] at St
          have St := Lib.hid St
          clear HR
          go_wp2_with fail
          exact ⟨⟨k + 1, by omega, by go_num, St.out⟩, by simp [intOf]; omega⟩
    obtain rfl : n = k := by omega
    have Tn := Lib.hid Tk.out.next
    go_wp2_with fail
    exact ⟨⟨s + 1, by omega, by go_num, Tn.out⟩, by simp [intOf]; omega⟩
  obtain rfl : N = s := by omega
  have Tb := Lib.hid Ts.out.tbl
  have Bs := Lib.hid Ts.out.below
  clear mk2 Ts
  obtain ⟨w9, rfl⟩ : ∃ w9, w9 = wr := ⟨_, rfl⟩
  have TI := Lib.hid (TourInv.start far h2)
  have own0 := Lib.hid (own_lit w9 (.int .i64 0))
  go_wp2_with fail
  go_loopw [15, 16, 17] (fun vo vs va wr2 => ∃ (don : List Int) (S a f : Nat) (v' : Value), v' = vo ∧ vs = .int .i64 ((N - 1 - S : Nat) : Int) ∧ va = .int .i64 a ∧ TourInv far n don S a f ∧ Below w9.heap.size w9 wr2 ∧ wr2.ownsRow w9.heap.size 3 1 v' don.length (don.map (Value.int .i64))) (fun _ vs _ _ => (intOf vs).toNat)
  case atStart => exact ⟨[0], 1, 0, _, _, rfl, congrArg (Value.int .i64) (by omega), rfl, TI.out, (Below.refl _ _).alloc (Nat.le_refl _) _, own0.out⟩
  obtain ⟨don, S, at_, f, v', rfl, rfl, rfl, ti, bel, own⟩ := hrel
  have Bel := Lib.hid bel
  have Own := Lib.hid own
  have Tbn := Lib.hid (Tb.out.below bel)
  have Ti := Lib.hid ti
  have Sz := Lib.hid bel.size
  have q1 : S < N := by have := ti.lt; have := HN.out; omega
  have q2 := ti.odd
  have q3 := ti.an
  have q4 := ti.len
  clear bel own
  by_cases hSA : S = N - 1
  case neg =>
    obtain ⟨j, ej, j0, jn, hb, hadd, tin⟩ := ti.next HB.out (by have := HN.out; omega)
    have Tin := Lib.hid tin
    have hS2 : S < 2 ^ n := by have := HN.out; omega
    have hlb := left_bit hS2 (k := j) jn
    have hs2 : 2 ^ n - 1 - (2 ^ n - 1 - S) = S := by omega
    obtain ⟨tR, hF⟩ := T_R HB.out (n := n) (2 ^ n - 1 - S) (2 ^ n - 1 - S) at_ (Nat.le_refl _) (by omega) (by
      have hpar : 2 ^ n % 2 = 0 := by
        obtain ⟨m, rfl⟩ : ∃ m, n = m + 1 := ⟨n - 1, by omega⟩
        rw [Nat.pow_succ]; omega
      omega)
    obtain ⟨f1, f2, j', e1', _, _, jb, je, jall⟩ := hF (by have := HN.out; omega)
    rw [hs2] at tR f1 f2 e1' je jall
    obtain rfl : j = j' := by
      have := ej.symm.trans e1'
      omega
    rw [HN.out] at je jall jb tR
    obtain ⟨s', hs'⟩ : ∃ s', N - 1 - S = s' := ⟨_, rfl⟩
    rw [hs'] at je jall jb tR
    rw [hs']
    have HE := Lib.hid je
    have HA := Lib.hid jall
    have HTR := Lib.hid tR
    have HJB := Lib.hid jb
    have sp : 0 < s' := by omega
    have sN : s' < N := by omega
    have Hs' := Lib.hid hs'
    have Hadd := Lib.hid hadd
    have Hb := Lib.hid hb
    have Q2 := Lib.hid (And.intro q2 q4)
    clear ti tin hlb hs2 f1 f2 e1' je jall jb tR hadd hb hs' ej hS2 q2 q4 hSA q1
    have d1 : decide (0 < s') = true := by simp; omega
    obtain ⟨w8, rfl⟩ : ∃ w8, w8 = wr := ⟨_, rfl⟩
    go_wp2_with fail
    go_loopw [18, 19] (fun nv kv wr2 => ∃ (c m : Nat), 1 ≤ c ∧ kv = .int .i64 c ∧ wr2 = w8.drewN m ∧ (c ≤ j ∧ nv = .int .i64 (-1) ∨ c = j + 1 ∧ nv = .int .i64 j)) (fun _ kv _ => n - (intOf kv).toNat)
    case atStart => exact ⟨1, 0, Nat.le_refl _, rfl, rfl, .inl ⟨by omega, rfl⟩⟩
    obtain ⟨c, m, hc1, rfl, rfl, hor⟩ := hrel
    rcases hor with ⟨hcj, rfl⟩ | ⟨rfl, rfl⟩
    · have cz1 : (c : Int) < (n : Int) := by omega
      have cz2 : (0 : Int) ≤ (c : Int) := by omega
      have b3 := and_i64 (s' / 2 ^ c) (by have := Nat.div_le_self s' (2 ^ c); omega)
      have ec : ((s' / 2 ^ c : Nat) : Int) = (s' : Int) / 2 ^ c := by rw [Int.natCast_ediv, Int.natCast_pow]; rfl
      rw [ec] at b3
      clear ec
      rcases (by omega : s' / 2 ^ c % 2 = 0 ∨ s' / 2 ^ c % 2 = 1) with e3 | e3
      · have f4 : (bits BinOp.and IntKind.i64 ((s' : Int) / 2 ^ c) 1 == 1) = false := by rw [b3, e3]; rfl
        have hne : c ≠ j := by
          rintro rfl
          have := HJB.out
          omega
        clear b3
        go_wp2_with fail
        go_quiet (fail)
        go_wp2_with fail
        exact ⟨⟨c + 1, _, by omega, by go_num, rfl, .inl ⟨by omega, rfl⟩⟩, by simp [intOf]; omega⟩
      · have f4 : (bits BinOp.and IntKind.i64 ((s' : Int) / 2 ^ c) 1 == 1) = true := by rw [b3, e3]; rfl
        have hbw := Bs.out.trans (Bel.out.mono Bs.out.size)
        obtain ⟨b', off', b2, off2, cap3, e', c1, c2⟩ := (HV.out.below hbw).num (i := at_) (j := c) q3 (by rw [(HG.out at_ q3).1]; omega)
        simp only [Option.some.injEq, Addr.mk.injEq, and_true] at e'
        obtain ⟨rfl, rfl⟩ := e'
        rw [(HG.out at_ q3).1] at c1
        rw [← HFar.out] at c2
        have hle := bit_le e3
        have hpos := Nat.two_pow_pos c
        have hE2 := HE.out
        have hA2 := HA.out c (by omega)
        obtain ⟨e, he⟩ : ∃ e, 2 ^ c = e := ⟨_, rfl⟩
        have p1 := pow_i64 he (by omega)
        rw [he] at hle hpos hA2
        obtain ⟨q, hq⟩ : ∃ q, s' - e = q := ⟨_, rfl⟩
        have p2 : IntKind.i64.wrap ((s' : Int) - (e : Int)) = (q : Int) := by rw [IntWalk.i64_in _ (by omega)]; omega
        have qr := Tbn.out.row q (by omega)
        have qv := Tbn.out.val q c (by omega) (by omega)
        have sr := Tbn.out.row s' sN
        have sv := Tbn.out.val s' at_ sN q3
        have qb := R_bound (far := far) n HB.out s' q c (by omega)
        have xb := HB.out at_ c
        obtain ⟨x, hx⟩ : ∃ x, far at_ c = x := ⟨_, rfl⟩
        obtain ⟨y, hy⟩ : ∃ y, R far n q c = y := ⟨_, rfl⟩
        obtain ⟨z, hz⟩ : ∃ z, R far n s' at_ = z := ⟨_, rfl⟩
        have htr := HTR.out
        rw [hz] at sv htr
        rw [hq, hx, hy] at hA2
        rw [hx] at c2 xb
        rw [hy] at qv qb
        have p3 : IntKind.i64.wrap (x + y) = x + y := IntWalk.i64_in _ (by omega)
        have u1 : (q : Int) < (N : Int) := by omega
        have u2 : (0 : Int) ≤ (q : Int) := by omega
        have u3 : (s' : Int) < (N : Int) := by omega
        have u4 : (0 : Int) ≤ (s' : Int) := by omega
        have u5 : (at_ : Int) < (n : Int) := by omega
        have u6 : (0 : Int) ≤ (at_ : Int) := by omega
        by_cases hcj2 : c = j
        · have hsum : (x + y == z) = true := by
            rw [← hcj2] at hE2
            rw [he, hq, hx, hy, htr] at hE2
            simpa using hE2
          have Hcj := Lib.hid hcj2
          clear hE2 hA2 b3 hle hpos he hq hx hy hz htr hcj2 hbw
          go_wp2_with fail
          go_quiet (fail)
          clear p1 p2 p3
          go_wp2_with fail
          exact ⟨⟨c + 1, _, by omega, by go_num, rfl, .inr ⟨by rw [Hcj.out], by rw [Hcj.out]⟩⟩, by simp [intOf]; omega⟩
        · have hsum : (x + y == z) = false := by
            have := (hA2 (by omega) (by rw [← he]; exact e3)).1
            rw [htr] at this
            simpa using this
          clear hE2 hA2 b3 hle hpos he hq hx hy hz htr hbw
          go_wp2_with fail
          go_quiet (fail)
          clear p1 p2 p3
          go_wp2_with fail
          exact ⟨⟨c + 1, _, by omega, by go_num, rfl, .inl ⟨by omega, rfl⟩⟩, by simp [intOf]; omega⟩
    · have g0 : decide (j < 0) = false := by simp
      have g1 : decide ((j : Int) < 0) = false := by simp
      have hle := bit_le HJB.out
      have hadd2 := Hadd.out
      obtain ⟨e, he⟩ : ∃ e, 2 ^ j = e := ⟨_, rfl⟩
      rw [he] at hle hadd2
      have he4 : e ≤ 4096 := by omega
      have Bw := Lib.hid (below_drewN Bel.out m)
      obtain ⟨ln, hln⟩ : ∃ ln, don.length = ln := ⟨_, rfl⟩
      have own3 := own_below_any Own.out (below_drewN (Below.refl _ _) m)
      rw [hln] at own3
      have Own3 := Lib.hid own3
      have qq := Q2.out.2
      have I1 := Lib.hid (show ln + 1 ≤ maxLen by unfold maxLen; have := Hs'.out; omega)
      have I2 := Lib.hid (show (ln + 1) * 8 ≤ 140737488355328 by have := Hs'.out; omega)
      have Sz2 := Lib.hid Bw.out.size
      have Hln := Lib.hid hln
      have He := Lib.hid he
      have Hle := Lib.hid hle
      have hle2 : (e : Int) ≤ (s' : Int) := by omega
      have z7 : (0 : Int) ≤ (j : Int) := by omega
      have z9 : (s' : Int) ≤ 4096 := by omega
      have z10 : (0 : Int) ≤ (e : Int) := by omega
      have p1 := pow_w64 he he4
      clear hle he hadd2 own3 hln qq he4
      generalize w8.drewN m = wr at *
      by_cases hjn1 : j + 1 < n
      case' pos => have g3 : (j : Int) + 1 < (n : Int) := by omega
      case' neg => have g3 : ¬ (j : Int) + 1 < (n : Int) := by omega
      all_goals
        go_wp2_with (at_builtin; go_loud (refine wpList_app1 _ rfl _ _ 36 rfl w9.heap.size 3 (.int .i64 0) 8 Try.underlying36 info3 rfl _ _ _ rfl (Own3.out.alloc _) wr.heap.size (.int .i64 j) rfl (cell1_new _ _ _) rfl I1.out I2.out (Nat.le_trans Sz2.out (size_alloc_le _ _)) ?_); intro v2 w12 own' bel')
        exact ⟨⟨don ++ [(j : Int)], S + 2 ^ j, j, f - 1, _, rfl, congrArg (Value.int .i64) (by have h1 := Hs'.out; have h2 := He.out; have h3 := Hle.out; rw [h2]; omega), rfl, Tin.out, Bw.out.trans (below_alloc1 Sz2.out bel'), by rw [List.length_append, Hln.out, List.map_append]; exact own'⟩, by have h2 := He.out; have h3 := Hle.out; have h4 := Nat.two_pow_pos j; simp [intOf]; omega⟩
  have hd := ti.done (by have := HN.out; omega)
  have Hd := Lib.hid hd
  have tr2 := (T_R HB.out (n := n) (2 ^ n - 2) (2 ^ n - 2) 0 (Nat.le_refl _) (by have := HN.out; omega) (by
    have hpar : 2 ^ n % 2 = 0 := by
      obtain ⟨m, rfl⟩ : ∃ m, n = m + 1 := ⟨n - 1, by omega⟩
      rw [Nat.pow_succ]; omega
    have := HN.out; omega)).1
  rw [show 2 ^ n - 1 - (2 ^ n - 2) = 1 by have := HN.out; omega, HN.out] at tr2
  have fr := Tbn.out.row (N - 2) (by omega)
  have fv := Tbn.out.val (N - 2) 0 (by omega) (by omega)
  rw [← tr2] at fv
  obtain ⟨y, hy⟩ : ∃ y, (T far n 1 0).1 = y := ⟨_, rfl⟩
  rw [hy] at fv
  have Hy := Lib.hid hy
  have p1 : IntKind.i64.wrap ((N : Int) - 2) = ((N - 2 : Nat) : Int) := by rw [IntWalk.i64_in _ (by omega)]; omega
  have e0 : N - 1 - S = 0 := by omega
  rw [e0]
  obtain ⟨r, hr⟩ : ∃ r, N - 2 = r := ⟨_, rfl⟩
  rw [hr] at fr fv p1
  have u1 : (r : Int) < (N : Int) := by omega
  have u2 : (0 : Int) ≤ (r : Int) := by omega
  have u3 : (0 : Int) < (n : Int) := by omega
  have u4 : 0 < n := by omega
  have own3 := own_base Own.out Bs.out.size
  rw [hd] at own3
  have Own3 := Lib.hid own3
  have BelF := Lib.hid (below_upto Bs.out Bel.out)
  clear ti hd tr2 hy hr own3 q1 q2 q3 q4 e0 hSA
  go_wp2_with fail
  go_quiet (fail)
  clear p1
  go_wp2_with fail
  refine bodyPost_ret (v := .tuple #[v', .int .i64 y, .int .i64 0]) (by simp [results, Try.results16, go_sem]) rfl ⟨v', by rw [Hy.out], ?_, ?_⟩
  · exact own_below_any Own3.out (below_drewN (Below.refl _ _) _)
  · exact BelF.out.trans (below_drewN (Below.refl _ _) _)
end Go.Proofs.Ytomcdnkafgmleaa
