/- The shelf's contract of bits.TrailingZeros64 laid at this program's numbers; the level of a node. Asked: the library's own table stands in its variable. -/
import Derived.Shelf.Spec.TrailingZeros
import Derived.Test.YtieeinppoiihpaaDoorBase2
import Derived.Test.YtieeinppoiihpaaDoorTree
import Derived.Test.YtieeinppoiihpaaDoorChecked
namespace Go.Proofs.YtieeinppoiihpaaDoor
open Go.RowKit Go.Shelf
def lays29_ren : Go.Shelf.Ren := ⟨fun | 29 => 92 | n => n, fun | 22 => 72 | 25 => 61 | 54 => 76 | n => n, fun | n => n⟩
theorem lays29 : Lays7.n29 Tryd.prog lays29_ren := {
  mixed := by kernel_rfl
  f29 := Tryd.func92.trans (congrArg some (by kernel_rfl))
  t0 := Tryd.underlying0
  a0 := Tryd.isAgg0
  z0 := Tryd.sizeOf0
  v0 := Tryd.zeroValue0
  i0 := by kernel_rfl
  t3 := Tryd.underlying3
  a3 := Tryd.isAgg3
  z3 := Tryd.sizeOf3
  v3 := Tryd.zeroValue3
  i3 := by kernel_rfl
  t4 := Tryd.underlying4
  a4 := Tryd.isAgg4
  z4 := Tryd.sizeOf4
  v4 := Tryd.zeroValue4
  i4 := by kernel_rfl
  t5 := Tryd.underlying5
  a5 := Tryd.isAgg5
  z5 := Tryd.sizeOf5
  v5 := Tryd.zeroValue5
  i5 := by kernel_rfl
  t22 := Tryd.underlying72
  a22 := Tryd.isAgg72
  z22 := Tryd.sizeOf72
  v22 := Tryd.zeroValue72
  i22 := by kernel_rfl
  t25 := Tryd.underlying61
  a25 := Tryd.isAgg61
  z25 := Tryd.sizeOf61
  v25 := Tryd.zeroValue61
  i25 := by kernel_rfl
  t54 := Tryd.underlying76
  a54 := Tryd.isAgg76
  z54 := Tryd.sizeOf76
  g1 := by kernel_rfl }
/-- the table stands in its variable -/
def Tab (w : World) : Prop := TabAt 1 Lib.deBruijn64tab w
theorem Tab.below {w w' : World} {n : Nat} (h : Tab w) (h2 : 1 < n) (hb : Below n w w') : Tab w' := fun j hj => (hb.cell (p := ⟨1, j, none⟩) h2).trans (h j hj)
theorem Tab.lt {w : World} (h : Tab w) : 1 < w.heap.size := World.block_lt_of_cell? w _ (h 0 (by decide))
theorem Tab.below' {w w' : World} (h : Tab w) (hb : Below w.heap.size w w') : Tab w' := h.below h.lt hb
theorem tz64 (x : Nat) (hx : x < 18446744073709551616) (w : World) (hT : Tab w) :
    Calls Tryd.prog 92 #[.int .u64 x] w fun e w' => e = .returned (.int .i64 (Lib.ctz 64 x)) ∧ w' = w := Any7.bits_TrailingZeros64 lays29 x hx w (fun _ => hT)
end Go.Proofs.YtieeinppoiihpaaDoor
