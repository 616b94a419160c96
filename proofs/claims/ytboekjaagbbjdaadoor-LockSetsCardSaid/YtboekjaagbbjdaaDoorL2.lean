/- Small contracts of the stripes. -/
import Derived.Test.YtboekjaagbbjdaaDoorL1
import Derived.Test.YtboekjaagbbjdaaDoorRows
import Derived.WalkKit
import Derived.Lib.Hide
import Derived.LoopTactic
import Derived.Outline
namespace Go.Proofs.YtboekjaagbbjdaaDoor
open Go.RowKit

theorem u32_nat (a : Nat) (h : a < 4294967296) : (BitVec.ofInt 32 (a : Int)).toNat = a := by
  rw [BitVec.ofInt_natCast, BitVec.toNat_ofNat]; exact Nat.mod_eq_of_lt (by omega)
theorem u32_in (a : Nat) (h : a < 4294967296) : IntKind.u32.wrap (a : Int) = (a : Int) := by
  simp [IntKind.wrap, IntKind.bits, IntKind.signed]
  omega
theorem and15 (a : Nat) (h : a < 4294967296) : bits .and .u32 (a : Int) 15 = ((a % 16 : Nat) : Int) := by
  have h2 : (BitVec.ofInt 32 15).toNat = 15 := by decide
  show IntKind.u32.wrap ((BitVec.ofInt 32 (a : Int) &&& BitVec.ofInt 32 15).toNat : Int) = _
  rw [BitVec.toNat_and, u32_nat a h, h2, show 15 = 2 ^ 4 - 1 by rfl, Nat.and_two_pow_sub_one_eq_mod]
  exact u32_in _ (by have := Nat.mod_lt a (y := 2 ^ 4) (by decide); omega)
theorem xor32 (a b : Nat) (ha : a < 4294967296) (hb : b < 4294967296) : bits .xor .u32 (a : Int) (b : Int) = ((a ^^^ b : Nat) : Int) := by
  show IntKind.u32.wrap ((BitVec.ofInt 32 (a : Int) ^^^ BitVec.ofInt 32 (b : Int)).toNat : Int) = _
  rw [BitVec.toNat_xor, u32_nat a ha, u32_nat b hb]
  exact u32_in _ (Nat.xor_lt_two_pow (n := 32) (by omega) (by omega))
theorem tab_lt : ∀ i, i < 16 → tab16.getD i 0 < 4294967296 := by decide

/-- the table in its variable -/
def Tab (w : World) : Prop := ∀ i, i < 16 → w.cell? ⟨0, i, none⟩ = some (.int .u32 (tab16.getD i 0 : Nat))

theorem moved29 (r : Nat) (hr : r < 4294967296) (w : World) (ht : Tab w) : Calls Tryd.prog 29 #[.int .u32 r] w fun e w' => e = .returned (.int .u32 (moved r : Nat)) ∧ w = w' := by
  have a1 := and15 r hr
  have l1 : r % 16 < 16 := Nat.mod_lt _ (by omega)
  have c1 := ht _ l1
  have t1 := tab_lt _ l1
  have x1 := xor32 (tab16.getD (r % 16) 0) (r / 16) t1 (by omega)
  have l2 : tab16.getD (r % 16) 0 ^^^ (r / 16) < 4294967296 := Nat.xor_lt_two_pow (n := 32) (by omega) (by omega)
  have hm : moved r = tab16.getD ((tab16.getD (r % 16) 0 ^^^ (r / 16)) % 16) 0 ^^^ ((tab16.getD (r % 16) 0 ^^^ (r / 16)) / 16) := rfl
  obtain ⟨x, hx⟩ : ∃ x, tab16.getD (r % 16) 0 = x := ⟨_, rfl⟩
  rw [hx] at c1 x1 l2 hm
  obtain ⟨q, hq⟩ : ∃ q, x ^^^ (r / 16) = q := ⟨_, rfl⟩
  rw [hq] at x1 l2 hm
  have a2 := and15 q l2
  have l3 : q % 16 < 16 := Nat.mod_lt _ (by omega)
  have c2 := ht _ l3
  have t2 := tab_lt _ l3
  obtain ⟨y, hy⟩ : ∃ y, tab16.getD (q % 16) 0 = y := ⟨_, rfl⟩
  rw [hy] at c2 t2 hm
  have x2 := xor32 y (q / 16) t2 (by omega)
  obtain ⟨z, hz⟩ : ∃ z, y ^^^ (q / 16) = z := ⟨_, rfl⟩
  rw [hz] at x2 hm
  have d1 : ((r / 16 : Nat) : Int) = (r : Int) / 16 := by omega
  have d2 : ((q / 16 : Nat) : Int) = (q : Int) / 16 := by omega
  have m1 : ((r % 16 : Nat) : Int) = (r : Int) % 16 := by omega
  have m2 : ((q % 16 : Nat) : Int) = (q : Int) % 16 := by omega
  have z1 : (0 : Int) ≤ (r : Int) % 16 := by omega
  have z2 : (r : Int) % 16 < 16 := by omega
  have z3 : (0 : Int) ≤ (q : Int) % 16 := by omega
  have z4 : (q : Int) % 16 < 16 := by omega
  have z5 : ((r : Int) % 16).toNat = r % 16 := by omega
  have z6 : ((q : Int) % 16).toNat = q % 16 := by omega
  have HM := Lib.hid hm
  rw [d1] at x1
  rw [d2] at x2
  rw [m1] at a1
  rw [m2] at a2
  clear hm hx hq hy hz d1 d2 m1 m2 ht
  go_enter Tryd.func29, Tryd.ntmps29
  go_wp2_with fail
  go_ret
  exact ⟨by rw [HM.out]; rfl, rfl⟩

theorem not32 (a : Nat) (ha : a < 4294967296) : bits .xor .u32 IntKind.u32.max (a : Int) = ((4294967295 - a : Nat) : Int) := by
  have h1 : BitVec.ofInt 32 IntKind.u32.max = BitVec.allOnes 32 := by decide
  show IntKind.u32.wrap ((BitVec.ofInt 32 IntKind.u32.max ^^^ BitVec.ofInt 32 (a : Int)).toNat : Int) = _
  rw [h1, BitVec.allOnes_xor, BitVec.toNat_not, u32_nat a ha]
  exact u32_in _ (by omega)

/-- a slice that reads as bytes -/
def Bytes (w : World) (v : Value) (l : List UInt8) : Prop :=
  (∃ a cap, v = .slice a 0 cap ∧ l = []) ∨
  ∃ b off cap, 0 < l.length ∧ l.length ≤ 9223372036854775807 ∧ v = .slice (some ⟨b, off, none⟩) l.length cap ∧ ∀ i, i < l.length → w.cell? ⟨b, off + i, none⟩ = some (.int .u8 ((l.getD i 0).toNat : Nat))

theorem take_snoc' (l : List UInt8) (k : Nat) (h : k < l.length) : l.take (k + 1) = l.take k ++ [l.getD k 0] := by
  rw [List.take_succ_eq_append_getElem h, List.getD_eq_getElem?_getD, List.getElem?_eq_getElem h]; rfl

set_option maxHeartbeats 1000000 in
theorem crcOn16_row (b off cap : Nat) (l : List UInt8) (w : World) (ht : Tab w) (hm : l.length ≤ 9223372036854775807) (hc : ∀ i, i < l.length → w.cell? ⟨b, off + i, none⟩ = some (.int .u8 ((l.getD i 0).toNat : Nat))) :
    Calls Tryd.prog 16 #[.int .u32 0, .slice (some ⟨b, off, none⟩) l.length cap] w fun e w' => e = .returned (.int .u32 (crc l : Nat)) ∧ w = w' := by
  have Hc := Lib.hid hc
  have Ht := Lib.hid ht
  clear hc ht
  generalize hn : l.length = n at *
  have Hn := Lib.hid hn
  clear hn
  have n0 := not32 0 (by decide)
  rw [show ((4294967295 - 0 : Nat) : Int) = 4294967295 by rfl, show ((0 : Nat) : Int) = 0 by rfl] at n0
  go_enter Tryd.func16, Tryd.ntmps16
  go_wp2_with fail
  clear n0
  go_loop [5, 12] (fun r i => ∃ k : Nat, k ≤ n ∧ i = .int .i64 k ∧ r = .int .u32 (crcTo 4294967295 (l.take k) : Nat)) (fun _ i => n - (intOf i).toNat)
  case atStart => exact ⟨0, Nat.zero_le _, rfl, rfl⟩
  obtain ⟨k, hk, rfl, rfl⟩ := hrel
  have hc := crcTo_lt (l.take k) 4294967295 (by decide)
  by_cases hlt : k < n
  case pos =>
    have cb := Hc.out k hlt
    have sn := take_snoc' l k (by have := Hn.out; omega)
    have sn2 := crcTo_snoc (l.take k) (l.getD k 0) 4294967295
    rw [← sn, ← moved_step] at sn2
    obtain ⟨x, hx⟩ : ∃ x, l.getD k 0 = x := ⟨_, rfl⟩
    rw [hx] at cb sn2
    have hx8 := x.toNat_lt
    obtain ⟨c, hcc⟩ : ∃ c, crcTo 4294967295 (l.take k) = c := ⟨_, rfl⟩
    rw [hcc] at hc sn2
    rw [hcc]
    have x1 := xor32 c x.toNat hc (by omega)
    have hq2 : c ^^^ x.toNat < 4294967296 := Nat.xor_lt_two_pow (n := 32) (by omega) (by omega)
    obtain ⟨q, hq⟩ : ∃ q, c ^^^ x.toNat = q := ⟨_, rfl⟩
    rw [hq] at x1 sn2 hq2
    have w8 : IntKind.u32.wrap ((x.toNat : Nat) : Int) = (x.toNat : Int) := u32_in _ (by omega)
    generalize x.toNat = y at *
    have SN := Lib.hid sn2
    clear sn sn2 hx hcc hq
    go_wp2_with fail
    refine (moved29 q hq2 _ Ht.out).mono ?_
    rintro e w' ⟨rfl, rfl⟩
    go_wp2_with fail
    go_round
    case rel => exact ⟨k + 1, by omega, by go_num, by rw [SN.out]⟩
    case measure => simp [intOf]; omega
  obtain rfl : n = k := by omega
  have hl : l.take n = l := List.take_of_length_le (by have := Hn.out; omega)
  rw [hl] at hc
  rw [hl]
  have n1 := not32 (crcTo 4294967295 l) hc
  have HC := Lib.hid (show crc l = 4294967295 - crcTo 4294967295 l from rfl)
  obtain ⟨q, hq⟩ : ∃ q, 4294967295 - crcTo 4294967295 l = q := ⟨_, rfl⟩
  rw [hq] at n1 HC
  generalize crcTo 4294967295 l = c at *
  clear hq hl
  go_wp2_with fail
  go_ret
  exact ⟨by rw [HC.out]; rfl, rfl⟩
end Go.Proofs.YtboekjaagbbjdaaDoor
