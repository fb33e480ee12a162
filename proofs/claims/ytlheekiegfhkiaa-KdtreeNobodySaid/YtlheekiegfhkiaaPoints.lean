/- Contracts of the given program, for the proofs of its statements: text Points. No conditions beyond those in each theorem. -/
import Derived.Test.YtlheekiegfhkiaaWideWalk
namespace Go.Croft
open Go Go.RowKit Go.Proofs

/-- api.Point -/
structure Pnt where
  id : Int
  x : Nat
  y : Nat
  data : ByteArray
deriving DecidableEq
structure Pnt.ok (p : Pnt) : Prop where
  id0 : -9223372036854775808 ≤ p.id
  id1 : p.id ≤ 9223372036854775807
  x : p.x < 4294967296
  y : p.y < 4294967296
  data : p.data.size ≤ 9223372036854775807
def kPt : Kd Pnt where
  K := 4
  ty := 54
  bytes := 32
  enc p := [.int .i64 p.id, .int .u32 p.x, .int .u32 p.y, .string p.data]
  len _ := rfl
  one := by intro x v h; simp at h; rcases h with rfl | rfl | rfl | rfl <;> rfl
  pos := by decide
theorem kPt_ok : KdOk Go.Proofs.Try.prog kPt := .of (by kernel_rfl) (by decide)
@[go_sem] def Pnt.v (p : Pnt) : Value := .agg #[.int .i64 p.id, .int .u32 p.x, .int .u32 p.y, .string p.data]
end Go.Croft
