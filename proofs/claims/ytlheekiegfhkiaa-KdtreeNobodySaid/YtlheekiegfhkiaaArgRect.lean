/- Contracts of the given program, for the proofs of its statements: text ArgRect. No conditions beyond those in each theorem. -/
import Derived.Test.YtlheekiegfhkiaaArgs
namespace Go.Croft
open Go Go.RowKit Go.Proofs Go.Deep Go.WideShapes Go.ChangeShapes

set_option maxRecDepth 100000 in
/-- an api.Rect that comes in -/
theorem rect_of_trod {H : Type} {enc : TypeId × Value → H} {W : World} {v : Value} {d : DataW H} {p : List MemPlace} {base : Nat} (hval : Value.okWide Try.prog W .any base 43 v) (h : DataW.Trod enc Try.prog W 0 (fun _ => true) true 43 v d p) :
    ∃ x0 y0 x1 y1 : Nat, v = .agg #[.int .u32 x0, .int .u32 y0, .int .u32 x1, .int .u32 y1] ∧ x0 < 4294967296 ∧ y0 < 4294967296 ∧ x1 < 4294967296 ∧ y1 < 4294967296 := by
  have hu := Try.underlying43
  unfold Value.okWide at hval
  rw [hu] at hval
  obtain ⟨cs, rfl, hcs, _⟩ := hval
  obtain ⟨fuel, hf⟩ := h
  obtain ⟨xs, n, rfl, _, hl, hx, hfl⟩ := DataW.trod_struct hu hf
  have k41 : Try.prog.cellsOf 41 = 1 := by kernel_rfl
  simp only [Value.cells] at hl hfl
  have hl4 : cs.toList.length = 4 := hl
  obtain ⟨l⟩ := cs
  match l, hl4 with
  | [c0, c1, c2, c3], _ =>
    have hx4 : xs.length = 4 := hx
    match xs, hx4 with
    | [z0, z1, z2, z3], _ =>
      have f0 := hfl 0 _ rfl
      have f1 := hfl 1 _ rfl
      have f2 := hfl 2 _ rfl
      have f3 := hfl 3 _ rfl
      simp [k41] at f0 f1 f2 f3
      obtain ⟨a, ha, _, wa⟩ := DataW.trod_int Try.underlying41 f0
      obtain ⟨b, hb, _, wb⟩ := DataW.trod_int Try.underlying41 f1
      obtain ⟨c, hc, _, wc⟩ := DataW.trod_int Try.underlying41 f2
      obtain ⟨e, he, _, we⟩ := DataW.trod_int Try.underlying41 f3
      simp at ha hb hc he
      subst ha hb hc he
      simp [Lit.wf, IntKind.min, IntKind.max, IntKind.signed, IntKind.bits] at wa wb wc we
      refine ⟨a.toNat, b.toNat, c.toNat, e.toNat, ?_, by omega, by omega, by omega, by omega⟩
      rw [Int.toNat_of_nonneg (by omega), Int.toNat_of_nonneg (by omega), Int.toNat_of_nonneg (by omega), Int.toNat_of_nonneg (by omega)]
end Go.Croft
