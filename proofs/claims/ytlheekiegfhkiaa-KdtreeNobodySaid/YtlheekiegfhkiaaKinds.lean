/- Contracts of the given program, for the proofs of its statements: text Kinds. No conditions beyond those in each theorem. -/
import Derived.Test.YtlheekiegfhkiaaEnds
import Derived.KernelRfl
import Derived.Test.YtlheekiegfhkiaaProg
namespace Go.Croft
open Go Go.RowKit

theorem KdOk.of {α : Type} {P : Program} {k : Kd α} (h : (P.info? k.ty).map (fun i => (i.zero.map (·.cells.size), i.size, i.bytes)) = some (some k.K, k.K, k.bytes)) (hs : k.K ≤ 16777216) : KdOk P k := by
  cases hi : P.info? k.ty with
  | none => rw [hi] at h; cases h
  | some i =>
    rw [hi] at h
    simp only [Option.map_some, Option.some.injEq, Prod.mk.injEq] at h
    obtain ⟨h1, h2, h3⟩ := h
    cases hz : i.zero with
    | none => rw [hz] at h1; cases h1
    | some z => rw [hz] at h1; simp only [Option.map_some, Option.some.injEq] at h1; exact ⟨⟨i, z, hi, hz, h2, h3, h1⟩, hs⟩

/-- int -/
def kInt : Kd Int where
  K := 1
  ty := 3
  bytes := 8
  enc x := [.int .i64 x]
  len _ := rfl
  one := by intro x v h; simp at h; subst h; rfl
  pos := by decide
theorem kInt_ok : KdOk Go.Proofs.Try.prog kInt := .of (by kernel_rfl) (by decide)
end Go.Croft
