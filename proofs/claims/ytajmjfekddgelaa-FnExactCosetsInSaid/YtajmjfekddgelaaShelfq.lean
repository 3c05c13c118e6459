/- Two more of the library's contracts at this seat's program: written by the kit's lay-plain for seat o; its numbers are that seat's. -/
import Derived.Ground.Names2Prog
import Derived.Shelf.Slices.MinMaxS
import Derived.Shelf.Spec.SearchS
import Derived.Test.YtajmjfekddgelaaProg
namespace Go.Proofs
open Go.Shelf
def Try.laysNm219_ren : Go.Shelf.Ren := ⟨fun | 19 => 46 | n => n, fun | 24 => 22 | 9 => 9 | 3 => 3 | 4 => 4 | 20 => 20 | 0 => 0 | n => n, fun | n => n⟩
theorem Try.laysNm219 : Go.Proofs.Lays2.n19 Try.prog Try.laysNm219_ren := {
  mixed := by kernel_rfl
  f19 := Try.func46.trans (congrArg some (by kernel_rfl))
  t0 := Try.underlying0
  a0 := Try.isAgg0
  z0 := Try.sizeOf0
  v0 := Try.zeroValue0
  t3 := Try.underlying3
  a3 := Try.isAgg3
  z3 := Try.sizeOf3
  v3 := Try.zeroValue3
  t4 := Try.underlying4
  a4 := Try.isAgg4
  z4 := Try.sizeOf4
  v4 := Try.zeroValue4
  t9 := Try.underlying9
  a9 := Try.isAgg9
  z9 := Try.sizeOf9
  v9 := Try.zeroValue9
  t20 := Try.underlying20
  a20 := Try.isAgg20
  z20 := Try.sizeOf20
  v20 := Try.zeroValue20
  t24 := Try.underlying22
  a24 := Try.isAgg22
  z24 := Try.sizeOf22
  v24 := Try.zeroValue22 }
open Go.RowKit Go.Lib in
theorem Try.slices_Min_string (b off n c : Nat) (zs : List ByteArray) (w : World) (hn : 0 < n) (hz : n ≤ zs.length) (hbig : n ≤ 9223372036854775807) (hc : ∀ j, j < zs.length → w.cell? ⟨b, off + j, none⟩ = some (.string (zs.getD j ByteArray.empty))) :
    Calls Try.prog 46 #[.slice (some ⟨b, off, none⟩) n c] w fun e w' => e = .returned (.string (Lib.minOfS (zs.take n))) ∧ w' = w := Any.slices_Min_string Try.laysNm219 b off n c zs w hn hz hbig hc
def Try.laysNm226_ren : Go.Shelf.Ren := ⟨fun | 26 => 82 | 33 => 75 | 34 => 89 | 38 => 88 | n => n, fun | 24 => 22 | 9 => 9 | 3 => 3 | 4 => 4 | 40 => 56 | 0 => 0 | n => n, fun | n => n⟩
theorem Try.laysNm226 : Go.Proofs.Lays2.n26 Try.prog Try.laysNm226_ren := {
  mixed := by kernel_rfl
  f26 := Try.func82.trans (congrArg some (by kernel_rfl))
  f33 := Try.func75.trans (congrArg some (by kernel_rfl))
  f34 := Try.func89.trans (congrArg some (by kernel_rfl))
  f38 := Try.func88.trans (congrArg some (by kernel_rfl))
  t0 := Try.underlying0
  a0 := Try.isAgg0
  z0 := Try.sizeOf0
  v0 := Try.zeroValue0
  t3 := Try.underlying3
  a3 := Try.isAgg3
  z3 := Try.sizeOf3
  v3 := Try.zeroValue3
  t4 := Try.underlying4
  a4 := Try.isAgg4
  z4 := Try.sizeOf4
  v4 := Try.zeroValue4
  t9 := Try.underlying9
  a9 := Try.isAgg9
  z9 := Try.sizeOf9
  v9 := Try.zeroValue9
  t24 := Try.underlying22
  a24 := Try.isAgg22
  z24 := Try.sizeOf22
  v24 := Try.zeroValue22
  t40 := Try.underlying56
  a40 := Try.isAgg56
  z40 := Try.sizeOf56
  v40 := Try.zeroValue56 }
open Go.RowKit Go.Lib in
theorem Try.slices_BinarySearch_string (b off n c : Nat) (Sx : Nat → ByteArray) (x : ByteArray) (w : World) (hbig : n < 4611686018427387904) (hc : ∀ j, j < n → w.cell? ⟨b, off + j, none⟩ = some (.string (Sx j))) :
    Calls Try.prog 82 #[.slice (some ⟨b, off, none⟩) n c, .string x] w fun e w' =>
      e = .returned (.tuple #[.int .i64 (Lib.bsGo (fun t => Op.bytesLess (Sx t).toList x.toList) n 0 n : Nat), .bool (decide (Lib.bsGo (fun t => Op.bytesLess (Sx t).toList x.toList) n 0 n < n ∧ Sx (Lib.bsGo (fun t => Op.bytesLess (Sx t).toList x.toList) n 0 n) = x))]) ∧ ∃ q, w' = w.drewN q := Any2.slices_BinarySearch_string Try.laysNm226 b off n c Sx x w hbig hc
open Go.RowKit Go.Lib in
theorem Try.slices_BinarySearch_string_empty (a : Option Addr) (c : Nat) (x : ByteArray) (w : World) :
    Calls Try.prog 82 #[.slice a 0 c, .string x] w fun e w' => e = .returned (.tuple #[.int .i64 0, .bool false]) ∧ w' = w := Any2.slices_BinarySearch_string_empty Try.laysNm226 a c x w
end Go.Proofs
