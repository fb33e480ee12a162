/- Contracts of the given program, for the proofs of its statements: text SpanKinds. No conditions beyond those in each theorem. -/
import Derived.Test.YtlheekiegfhkiaaPoints
namespace Go.Croft
open Go Go.RowKit Go.Proofs

structure SRoad where
  a : Int
  b : Int
  d : Dist
deriving DecidableEq
def kRoad : Kd SRoad where
  K := 4
  ty := 78
  bytes := 32
  enc x := [.int .i64 x.a, .int .i64 x.b, .int .u64 x.d.hi, .int .u64 x.d.lo]
  len _ := rfl
  one := by intro x v h; simp at h; rcases h with rfl | rfl | rfl | rfl <;> rfl
  pos := by decide
theorem kRoad_ok : KdOk Go.Proofs.Try.prog kRoad := .of (by kernel_rfl) (by decide)
@[go_sem] def SRoad.v (r : SRoad) : Value := .agg #[.int .i64 r.a, .int .i64 r.b, .int .u64 r.d.hi, .int .u64 r.d.lo]
def cmpR (x y : SRoad) : Int := orI [cmpD x.d y.d, cmpI x.a y.a, cmpI x.b y.b]
end Go.Croft
