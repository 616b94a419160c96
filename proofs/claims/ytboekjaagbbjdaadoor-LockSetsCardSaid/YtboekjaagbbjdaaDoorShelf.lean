/- The library's contracts of sort and compact at this program, laid by the kit's tool. -/
import Derived.Shelf.Sort.Plain
import Derived.Ground.Names2Prog
import Derived.Shelf.Slices.CompactI
import Derived.Shelf.Slices.Cells
import Derived.Shelf.Slices.In.SortNone
import Derived.Test.YtboekjaagbbjdaaDoorProg
namespace Go.Proofs
open Go.Shelf
def Tryd.lays189_ren : Go.Shelf.Ren := ⟨fun | 189 => 9 | 125 => 14 | 257 => 13 | 128 => 26 | 129 => 27 | 294 => 17 | 295 => 18 | 296 => 19 | 297 => 20 | 298 => 21 | 299 => 22 | 216 => 23 | 300 => 24 | 301 => 25 | 328 => 30 | 329 => 31 | 330 => 32 | 331 => 33 | 332 => 34 | 215 => 35 | 343 => 36 | n => n, fun | 28 => 23 | 3 => 3 | 46 => 36 | 0 => 0 | 51 => 31 | 53 => 30 | 4 => 4 | 183 => 40 | 182 => 39 | 131 => 45 | 5 => 5 | 9 => 9 | 218 => 50 | 222 => 54 | 228 => 58 | 229 => 59 | n => n, fun | n => n⟩
theorem Tryd.lays189 : Go.Proofs.Lays.n189 Tryd.prog Tryd.lays189_ren := {
  mixed := by kernel_rfl
  f125 := Tryd.func14.trans (congrArg some (by kernel_rfl))
  f128 := Tryd.func26.trans (congrArg some (by kernel_rfl))
  f129 := Tryd.func27.trans (congrArg some (by kernel_rfl))
  f189 := Tryd.func9.trans (congrArg some (by kernel_rfl))
  f215 := Tryd.func35.trans (congrArg some (by kernel_rfl))
  f216 := Tryd.func23.trans (congrArg some (by kernel_rfl))
  f257 := Tryd.func13.trans (congrArg some (by kernel_rfl))
  f294 := Tryd.func17.trans (congrArg some (by kernel_rfl))
  f295 := Tryd.func18.trans (congrArg some (by kernel_rfl))
  f296 := Tryd.func19.trans (congrArg some (by kernel_rfl))
  f297 := Tryd.func20.trans (congrArg some (by kernel_rfl))
  f298 := Tryd.func21.trans (congrArg some (by kernel_rfl))
  f299 := Tryd.func22.trans (congrArg some (by kernel_rfl))
  f300 := Tryd.func24.trans (congrArg some (by kernel_rfl))
  f301 := Tryd.func25.trans (congrArg some (by kernel_rfl))
  f328 := Tryd.func30.trans (congrArg some (by kernel_rfl))
  f329 := Tryd.func31.trans (congrArg some (by kernel_rfl))
  f330 := Tryd.func32.trans (congrArg some (by kernel_rfl))
  f331 := Tryd.func33.trans (congrArg some (by kernel_rfl))
  f332 := Tryd.func34.trans (congrArg some (by kernel_rfl))
  f343 := Tryd.func36.trans (congrArg some (by kernel_rfl))
  t0 := Tryd.underlying0
  a0 := Tryd.isAgg0
  z0 := Tryd.sizeOf0
  v0 := Tryd.zeroValue0
  t3 := Tryd.underlying3
  a3 := Tryd.isAgg3
  z3 := Tryd.sizeOf3
  v3 := Tryd.zeroValue3
  t4 := Tryd.underlying4
  a4 := Tryd.isAgg4
  z4 := Tryd.sizeOf4
  v4 := Tryd.zeroValue4
  t5 := Tryd.underlying5
  a5 := Tryd.isAgg5
  z5 := Tryd.sizeOf5
  v5 := Tryd.zeroValue5
  t9 := Tryd.underlying9
  a9 := Tryd.isAgg9
  z9 := Tryd.sizeOf9
  v9 := Tryd.zeroValue9
  t28 := Tryd.underlying23
  a28 := Tryd.isAgg23
  z28 := Tryd.sizeOf23
  v28 := Tryd.zeroValue23
  t46 := Tryd.underlying36
  a46 := Tryd.isAgg36
  z46 := Tryd.sizeOf36
  v46 := Tryd.zeroValue36
  t51 := Tryd.underlying31
  a51 := Tryd.isAgg31
  z51 := Tryd.sizeOf31
  v51 := Tryd.zeroValue31
  t53 := Tryd.underlying30
  a53 := Tryd.isAgg30
  z53 := Tryd.sizeOf30
  v53 := Tryd.zeroValue30
  t131 := Tryd.underlying45
  a131 := Tryd.isAgg45
  z131 := Tryd.sizeOf45
  v131 := Tryd.zeroValue45
  t182 := Tryd.underlying39
  a182 := Tryd.isAgg39
  z182 := Tryd.sizeOf39
  v182 := Tryd.zeroValue39
  t183 := Tryd.underlying40
  a183 := Tryd.isAgg40
  z183 := Tryd.sizeOf40
  v183 := Tryd.zeroValue40
  t218 := Tryd.underlying50
  a218 := Tryd.isAgg50
  z218 := Tryd.sizeOf50
  v218 := Tryd.zeroValue50
  t222 := Tryd.underlying54
  a222 := Tryd.isAgg54
  z222 := Tryd.sizeOf54
  v222 := Tryd.zeroValue54
  t228 := Tryd.underlying58
  a228 := Tryd.isAgg58
  z228 := Tryd.sizeOf58
  v228 := Tryd.zeroValue58
  t229 := Tryd.underlying59
  a229 := Tryd.isAgg59
  z229 := Tryd.sizeOf59
  v229 := Tryd.zeroValue59 }
open Go.Sort Go.RowKit in
theorem Tryd.slices_Sort_int (blk off cap : Nat) (zs : List Int) (w : World) (hH : Holds (Value.int .i64) w blk off zs.toArray) (hblk : blk < w.heap.size) (hsz : zs.length < 4611686018427387904) :
    Calls Tryd.prog 9 #[.slice (some ⟨blk, off, none⟩) zs.length cap] w fun e w' =>
      e = .returned (.tuple #[]) ∧ ∃ n os, w' = grow (putRow (Value.int .i64) (Sort.ahead w n) blk off (zs.mergeSort fun x y => decide (x ≤ y)).toArray) os := Any.slices_Sort_int Tryd.lays189 blk off cap zs w hH hblk hsz
def Tryd.laysNm220_ren : Go.Shelf.Ren := ⟨fun | 20 => 10 | n => n, fun | 22 => 23 | 3 => 3 | 4 => 4 | 0 => 0 | n => n, fun | n => n⟩
theorem Tryd.laysNm220 : Go.Proofs.Lays2.n20 Tryd.prog Tryd.laysNm220_ren := {
  mixed := by kernel_rfl
  f20 := Tryd.func10.trans (congrArg some (by kernel_rfl))
  t0 := Tryd.underlying0
  a0 := Tryd.isAgg0
  z0 := Tryd.sizeOf0
  v0 := Tryd.zeroValue0
  t3 := Tryd.underlying3
  a3 := Tryd.isAgg3
  z3 := Tryd.sizeOf3
  v3 := Tryd.zeroValue3
  t4 := Tryd.underlying4
  a4 := Tryd.isAgg4
  z4 := Tryd.sizeOf4
  v4 := Tryd.zeroValue4
  t22 := Tryd.underlying23
  a22 := Tryd.isAgg23
  z22 := Tryd.sizeOf23
  v22 := Tryd.zeroValue23
  i3 := by kernel_rfl }
open Go.RowKit Go.Lib Go.Sort in
theorem Tryd.slices_Compact_int_arr (blk off cap : Nat) (d : Array Int) (w : World) (hH : Holds encI w blk off d) (hsz : d.size ≤ 9223372036854775807) (hcap : d.size ≤ cap) :
    Calls Tryd.prog 10 #[.slice (some ⟨blk, off, none⟩) d.size cap] w fun e w' => e = .returned (.slice (some ⟨blk, off, none⟩) (compactUpTo d d.size).length cap) ∧ ∃ q, w' = putRow encI (Sort.ahead w q) blk off (compactUpTo d d.size ++ List.replicate (d.size - (compactUpTo d d.size).length) 0).toArray := Any.slices_Compact_int_arr Tryd.laysNm220 blk off cap d w hH hsz hcap
open Go.RowKit Go.Lib Go.Sort in
theorem Tryd.slices_Compact_int (blk off cap : Nat) (zs : List Int) (w : World) (hH : Holds (Value.int .i64) w blk off zs.toArray) (hsz : zs.length ≤ 9223372036854775807) (hcap : zs.length ≤ cap) :
    Calls Tryd.prog 10 #[.slice (some ⟨blk, off, none⟩) zs.length cap] w fun e w' => e = .returned (.slice (some ⟨blk, off, none⟩) (Lib.compact zs).length cap) ∧ ∃ q, w' = putRow (Value.int .i64) (Sort.ahead w q) blk off (Lib.compact zs ++ List.replicate (zs.length - (Lib.compact zs).length) 0).toArray := Any.slices_Compact_int Tryd.laysNm220 blk off cap zs w hH hsz hcap
open Go.RowKit Go.Lib Go.Sort in
theorem Tryd.slices_Compact_int_empty (a : Option Addr) (cap : Nat) (w : World) :
    Calls Tryd.prog 10 #[.slice a 0 cap] w fun e w' => e = .returned (.slice a 0 cap) ∧ w' = w := Any.slices_Compact_int_empty Tryd.laysNm220 a cap w
open Go.RowKit Go.Lib Go.Sort in
theorem Tryd.slices_Compact_int_cells (b off n c : Nat) (zs : List Int) (w : World) (hz : n ≤ zs.length) (hbig : n ≤ 9223372036854775807) (hcap : n ≤ c) (hc : ∀ j, j < zs.length → w.cell? ⟨b, off + j, none⟩ = some (.int .i64 (zs.getD j 0))) (hf : ∀ j, j < n → w.frozen? ⟨b, off + j, none⟩ = false) :
    Calls Tryd.prog 10 #[.slice (some ⟨b, off, none⟩) n c] w fun e w' => e = .returned (.slice (some ⟨b, off, none⟩) (Lib.compact (zs.take n)).length c) ∧ ∃ q, w' = (w.drewN q).setCells b off ((Lib.compact (zs.take n) ++ List.replicate (n - (Lib.compact (zs.take n)).length) 0).map (Value.int .i64)) := Any.slices_Compact_int_cells Tryd.laysNm220 b off n c zs w hz hbig hcap hc hf
open Go.RowKit Go.Sort in
theorem Tryd.slices_Sort_int_none (p : Option Addr) (cap : Nat) (w : World) :
    Calls Tryd.prog 9 #[.slice p 0 cap] w fun e w' => e = .returned (.tuple #[]) ∧ w' = w := Any.slices_Sort_int_none Tryd.lays189 p cap w
end Go.Proofs
