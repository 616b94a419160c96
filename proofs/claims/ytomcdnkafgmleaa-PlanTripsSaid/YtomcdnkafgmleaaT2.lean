/- The least of legs. -/
import Derived.Test.YtomcdnkafgmleaaT1
namespace Go.Proofs.Ytomcdnkafgmleaa
open Go.RowKit

/-- a slice that reads as legs -/
def Legs (w : World) (v : Value) (ls : List (Int × Int)) : Prop :=
  ∃ b off cap, 0 < ls.length ∧ ls.length ≤ 4096 ∧ b < w.heap.size ∧ v = .slice (some ⟨b, off, none⟩) ls.length cap ∧
    ∀ i, i < ls.length → w.cell? ⟨b, off + i * 2, none⟩ = some (.int .i64 (ls.getD i (0, 0)).1) ∧ w.cell? ⟨b, off + i * 2 + 1, none⟩ = some (.int .i64 (ls.getD i (0, 0)).2)

def leastTo (ls : List (Int × Int)) : Nat → Int × Int
  | 0 => (0, 0)
  | k + 1 => if k = 0 ∨ cmpL (ls.getD k (0, 0)) (leastTo ls k) < 0 then ls.getD k (0, 0) else leastTo ls k

set_option maxRecDepth 100000 in
set_option maxHeartbeats 4000000 in
theorem least45 (v : Value) (ls : List (Int × Int)) (w : World) (hv : Legs w v ls) : Calls Try.prog 45 #[v, .func (.func 46) #[] #[]] w fun e w' =>
    e = .returned (.tuple #[.agg #[.int .i64 (leastTo ls ls.length).1, .int .i64 (leastTo ls ls.length).2], .bool true]) ∧ Below w.heap.size w w' := by
  obtain ⟨b, off, cap, h0, h1, hb, rfl, hc⟩ := hv
  have Hc := Lib.hid hc
  clear hc
  generalize hn : ls.length = n at *
  clear hn
  go_enter Try.func45, Try.ntmps45
  go_wp2_with fail
  have st0 : Below w.heap.size w ((w.alloc (.cells #[.int .i64 0, .int .i64 0] 102)).alloc (.cells #[.int .i64 0, .int .i64 0] 102)) := bel2 _ _ _
  go_loopw [11] (fun i wr => ∃ (k : Nat), k ≤ n ∧ i = .int .i64 k ∧ Below w.heap.size w wr ∧ w.heap.size + 1 < wr.heap.size ∧ Blk wr w.heap.size [.int .i64 0, .int .i64 0] ∧ Blk wr (w.heap.size + 1) [.int .i64 (leastTo ls k).1, .int .i64 (leastTo ls k).2]) (fun i _ => n - (intOf i).toNat)
  case atStart => exact ⟨0, Nat.zero_le _, rfl, st0, by simp, (Blk.new w [.int .i64 0, .int .i64 0] 102).below (bel_alloc _ _), by have := Blk.new (w.alloc (.cells #[.int .i64 0, .int .i64 0] 102)) [.int .i64 0, .int .i64 0] 102; simpa [leastTo] using this⟩
  obtain ⟨k, hk, rfl, bel, hz, P0, P⟩ := hrel
  by_cases hlt : k < n
  case pos =>
    obtain ⟨c1, c2⟩ := Hc.out k hlt
    have c1 : wr.cell? ⟨b, off + k * 2, none⟩ = some (.int .i64 (ls.getD k (0, 0)).1) := by rw [bel.cell (p := ⟨b, off + k * 2, none⟩) hb]; exact c1
    have c2 : wr.cell? ⟨b, off + k * 2 + 1, none⟩ = some (.int .i64 (ls.getD k (0, 0)).2) := by rw [bel.cell (p := ⟨b, off + k * 2 + 1, none⟩) hb]; exact c2
    obtain ⟨x, hx⟩ : ∃ x, ls.getD k (0, 0) = x := ⟨_, rfl⟩
    obtain ⟨y, hy⟩ : ∃ y, leastTo ls k = y := ⟨_, rfl⟩
    have nx : leastTo ls (k + 1) = if k = 0 ∨ cmpL x y < 0 then x else y := by rw [← hx, ← hy]; rfl
    rw [hx] at c1 c2
    rw [hy] at P
    have NX := Lib.hid nx
    clear hx hy nx
    have q0 : wr.cell? ⟨w.heap.size + 1, 0, none⟩ = some (.int .i64 y.1) := P.1 0 (by simp)
    have q1 : wr.cell? ⟨w.heap.size + 1, 1, none⟩ = some (.int .i64 y.2) := P.1 1 (by simp)
    have qf := P.2.1
    have Bel := Lib.hid bel
    have P0' := Lib.hid P0
    have P' := Lib.hid P
    by_cases hk0 : k = 0
    · subst hk0
      clear bel P P0
      simp only [Nat.zero_mul, Nat.add_zero] at c1 c2
      go_wp2_with fail
      refine ⟨⟨1, by omega, by go_num, ?_, ?_, ?_, ?_⟩, by simp [intOf]; omega⟩
      · refine Below.alloc (Below.setCell (Below.setCell Bel.out ?_ _) ?_ _) ?_ _
        · exact Nat.le_succ _
        · exact Nat.le_succ _
        · simp; omega
      · simp; omega
      · refine Blk.below (Blk.set (Blk.set P0'.out ?_) ?_) (bel_alloc _ _) <;> omega
      · rw [NX.out, if_pos (Or.inl rfl)]
        refine Blk.below (Blk.over (Blk.over P'.out ?_) ?_) (bel_alloc _ _) <;> simp
    · clear bel P P0
      have hk1 : ((k : Int) == 0) = false := by simpa using hk0
      go_wp2_with fail
      refine (legs46 x y _).mono ?_
      rintro e w1 ⟨rfl, bel⟩
      have bel1 := Lib.hid (Below.trans (bel_alloc wr (.cells #[.int .i64 x.1, .int .i64 x.2] 102)) (bel.mono (size_alloc_le _ _)))
      have c8 : w1.cell? ⟨wr.heap.size, 0, none⟩ = some (.int .i64 x.1) := by rw [bel.cell (p := ⟨wr.heap.size, 0, none⟩) (by simp)]; simp
      have c9 : w1.cell? ⟨wr.heap.size, 1, none⟩ = some (.int .i64 x.2) := by rw [bel.cell (p := ⟨wr.heap.size, 1, none⟩) (by simp)]; simp
      have P2 := P'.out.below bel1.out
      have P3 := Lib.hid P2
      have q0 : w1.cell? ⟨w.heap.size + 1, 0, none⟩ = some (.int .i64 y.1) := P2.1 0 (by simp)
      have q1 : w1.cell? ⟨w.heap.size + 1, 1, none⟩ = some (.int .i64 y.2) := P2.1 1 (by simp)
      have qf := P2.2.1
      have Bel1 := Lib.hid (Bel.out.trans (bel1.out.mono (by omega)))
      have hz1 := Nat.lt_of_lt_of_le hz bel1.out.size
      clear bel P2
      obtain ⟨z, hzz⟩ : ∃ z, cmpL x y = z := ⟨_, rfl⟩
      have NX := Lib.hid (by have := NX.out; rw [hzz] at this; exact this : leastTo ls (k + 1) = if k = 0 ∨ z < 0 then x else y)
      rw [hzz]
      clear hzz
      by_cases hlt2 : z < 0
      · go_wp2_with fail
        refine ⟨⟨k + 1, by omega, by go_num, ?_, ?_, ?_, ?_⟩, by simp [intOf]; omega⟩
        · refine Below.setCell (Below.setCell Bel1.out ?_ _) ?_ _ <;> exact Nat.le_succ _
        · simp; omega
        · refine Blk.set (Blk.set (P0'.out.below bel1.out) ?_) ?_ <;> omega
        · rw [NX.out, if_pos (Or.inr hlt2)]
          refine Blk.over (Blk.over P3.out ?_) ?_ <;> simp
      · go_wp2_with fail
        refine ⟨⟨k + 1, by omega, by go_num, Bel1.out, hz1, P0'.out.below bel1.out, ?_⟩, by simp [intOf]; omega⟩
        rw [NX.out, if_neg (by omega)]
        exact P3.out
  obtain rfl : n = k := by omega
  have q0 : wr.cell? ⟨w.heap.size + 1, 0, none⟩ = some (.int .i64 (leastTo ls n).1) := P.1 0 (by simp)
  have q1 : wr.cell? ⟨w.heap.size + 1, 1, none⟩ = some (.int .i64 (leastTo ls n).2) := P.1 1 (by simp)
  have p0 : wr.cell? ⟨w.heap.size, 0, none⟩ = some (.int .i64 0) := P0.1 0 (by simp)
  have p1 : wr.cell? ⟨w.heap.size, 1, none⟩ = some (.int .i64 0) := P0.1 1 (by simp)
  have pf := P0.2.1
  have Bel := Lib.hid bel
  clear bel P P0
  go_wp2_with fail
  refine bodyPost_ret (v := .tuple #[.agg #[.int .i64 (leastTo ls n).1, .int .i64 (leastTo ls n).2], .bool true]) (by simp [results, Try.results45, go_sem, p0, p1]) rfl ⟨rfl, ?_⟩
  exact Below.setCell (Below.setCell Bel.out (Nat.le_refl _) _) (Nat.le_refl _) _
end Go.Proofs.Ytomcdnkafgmleaa
