/- Contracts of the given program, for the proofs of its statements: text Args. No conditions beyond those in each theorem. -/
import Derived.Test.YtlheekiegfhkiaaPoints
import Derived.ProofKit
import Derived.OpenShut
import Derived.Carry
import Derived.Deep.Slices
import Derived.Test.YtlheekiegfhkiaaRows
namespace Go.Croft
open Go Go.RowKit Go.Proofs Go.Deep Go.WideShapes Go.ChangeShapes

/-- all of a world's memory, as it is when a law is called -/
def Mem.of (w : World) : Mem := ⟨w.os, w.tape, w.output, w.drawn, fun b => w.heap[b]?⟩
theorem St.of (w : World) : St (.of w) w emp := ⟨rfl, rfl, rfl, Nat.le_refl _, fun _ _ h => h, fun _ => none, by simp, fun _ => rfl⟩
theorem below_of {w w' : World} {m : Mem} {H : HP} (hm : (Mem.of w).le m) (h : St m w' H) : Below w.heap.size w w' := by
  have hb : ∀ k, k < w.heap.size → w'.heap[k]? = w.heap[k]? := fun k hk => by
    have e : w.heap[k]? = some w.heap[k] := Array.getElem?_eq_getElem hk
    rw [e]; exact h.mem k _ (hm.blk k _ e)
  refine ⟨h.os.trans hm.os, h.tape.trans hm.tape, h.output.trans hm.output, ?_, hb⟩
  by_cases h0 : w.heap.size = 0
  · omega
  · have := hb (w.heap.size - 1) (by omega)
    rw [show w.heap[w.heap.size - 1]? = some _ from Array.getElem?_eq_getElem (by omega)] at this
    have := (Array.getElem?_eq_some_iff.1 this).1
    omega

section
variable {H : Type} {enc : TypeId × Value → H} {P : Program}
/-- a law's end: its one result, its arguments as they read before, nothing older turned -/
theorem post_of_below {f : Func} {s : ChangeSpec} {apart fresh handsOn : Bool} {W W' : World} {args : Array Value} {v : Value} {ds gs : List (DataW H)} {before : List MemPlace}
    (hW : DataW.Whole enc P f.params.toList s.vars apart W args.toList ds gs before)
    (hres : ∀ (b : Nat) (sp : Nat → Bool) (hd : Bool), DataW.TrodAll enc P W' b sp hd f.resultTypes.toList (v.resultList f.resultTypes.size) (s.fn H (ds ++ gs)).results [])
    (hargs : DataW.TrodAll enc P W' 0 (fun b => decide (b < W.heap.size)) true f.params.toList args.toList (s.fn H (ds ++ gs)).args before)
    (hvars : DataW.TrodVars enc P W' (fun b => decide (b < W.heap.size)) s.vars (s.fn H (ds ++ gs)).vars []) (hb : Below W.heap.size W W') :
    s.post enc P f apart fresh handsOn false W args v W' :=
  ⟨ds, gs, before, [], before, [], hW, hres _ _ _, hargs, hvars, World.keptBut_mono (fun _ hp => ⟨hp, Or.inr (Or.inl hp)⟩) (hb.frame _), fun h => by cases h⟩

theorem addr_add (b off n : Nat) : (Addr.mk b off none).add n = ⟨b, off + n, none⟩ := by
  unfold Addr.add; split <;> simp_all
theorem slR_of_trod {α : Type} {k : Kd α} {ok : α → Prop} {t e : TypeId} {W : World} {v : Value} {d : DataW H} {p : List MemPlace} {base : Nat} (ht : P.underlying t = some (.slice e)) (hK : P.cellsOf e = k.K)
    (dec : ∀ n cs y, DataW.trod enc P W 0 (fun _ => true) true n e cs = some y → ∃ x : α, cs = k.enc x ∧ ok x)
    (hval : Value.okWide P W .any base t v) (h : DataW.Trod enc P W 0 (fun _ => true) true t v d p) : ∃ A cap l, v = .slice A l.length cap ∧ SlR k (.of W) A cap l ∧ ∀ x ∈ l, ok x := by
  obtain ⟨A, len, cap, rfl⟩ := okWide_slice ht hval
  obtain ⟨fuel, hf⟩ := h
  rcases open_slice ht hf with ⟨h0, _⟩ | ⟨a, len', cap', m, n, D, Pl, h0, hb, hl, hm, hmm, hx, hel⟩
  · simp [Value.cells] at h0
    obtain ⟨rfl, rfl, rfl⟩ := h0
    exact ⟨none, 0, [], rfl, SlR.nil _ _, by simp⟩
  · simp [Value.cells] at h0
    obtain ⟨rfl, rfl, rfl⟩ := h0
    simp at hmm
    subst hmm
    have hsp : a.spot = none := by
      simp only [Value.okWide, ht, Cell.okWide, Cell.ok, World.has] at hval
      exact hval.2.2.2.1
    obtain ⟨b, off, sp⟩ := a
    cases hsp
    rw [hK] at hel
    have each : ∀ i, i < m → ∃ x : α, ok x ∧ ∀ j, j < k.K → W.cell? ⟨b, off + i * k.K + j, none⟩ = (k.enc x)[j]? := fun i hi => by
      obtain ⟨cs', h1, h2⟩ := hel i hi
      obtain ⟨x, rfl, hx⟩ := dec _ _ _ h2
      refine ⟨x, hx, fun j hj => ?_⟩
      have := (World.cells?_some h1).2.2 j hj
      rw [← this, addr_add, addr_add]
    let X : Fin m → α := fun i => Classical.choose (each i.1 i.2)
    have hX : ∀ i : Fin m, ok (X i) ∧ ∀ j, j < k.K → W.cell? ⟨b, off + i.1 * k.K + j, none⟩ = (k.enc (X i))[j]? := fun i => Classical.choose_spec (each i.1 i.2)
    have hlen : (List.ofFn fun i : Fin len => X ⟨i.1, Nat.lt_of_lt_of_le i.2 hl⟩).length = len := by simp
    refine ⟨some ⟨b, off, none⟩, m, List.ofFn fun i : Fin len => X ⟨i.1, Nat.lt_of_lt_of_le i.2 hl⟩, by rw [hlen], .inr ⟨b, off, rfl, by rw [hlen]; exact hl, hm, fun hc => ?_⟩, fun x hx => ?_⟩
    · have hKp := k.pos
      have cell : ∀ i (hi : i < m) j, j < k.K → ∃ cs ty fr, W.heap[b]? = some (.cells cs ty fr) ∧ cs[off + i * k.K + j]? = (k.enc (X ⟨i, hi⟩))[j]? := fun i hi j hj => by
        have h1 := (hX ⟨i, hi⟩).2 j hj
        have h2 : (k.enc (X ⟨i, hi⟩))[j]? ≠ none := by
          rw [Ne, List.getElem?_eq_none_iff, k.len]; omega
        unfold World.cell? at h1
        simp only [Option.isSome_none, Bool.false_eq_true, if_false] at h1
        split at h1
        · rename_i c ty fr he
          exact ⟨c, ty, fr, he, h1⟩
        · exact absurd h1.symm h2
      obtain ⟨cs, ty, fr, hbk, _⟩ := cell 0 hc 0 hKp
      have cell' : ∀ i (hi : i < m) j, j < k.K → cs[off + i * k.K + j]? = (k.enc (X ⟨i, hi⟩))[j]? := fun i hi j hj => by
        obtain ⟨cs2, _, _, e2, h⟩ := cell i hi j hj
        rw [hbk] at e2; cases e2; exact h
      have hsz : off + m * k.K ≤ cs.size := by
        have h1 := cell' (m - 1) (by omega) (k.K - 1) (by omega)
        have h2 : (k.enc (X ⟨m - 1, by omega⟩))[k.K - 1]? ≠ none := by
          rw [Ne, List.getElem?_eq_none_iff, k.len]; omega
        rw [← h1, Ne, Array.getElem?_eq_none_iff] at h2
        have : (m - 1) * k.K + k.K = m * k.K := by
          have : (m - 1 + 1) * k.K = m * k.K := by congr 1; omega
          rw [Nat.add_mul, Nat.one_mul] at this; exact this
        omega
      refine ⟨cs, ty, fr, hbk, hsz, Holds.of_get ?_ ?_⟩
      · rw [hlen]; have := Nat.mul_le_mul_right k.K hl; omega
      · intro i j hi hj
        rw [hlen] at hi
        rw [cell' i (by omega) j hj]; simp
    · obtain ⟨i, rfl⟩ := (List.mem_ofFn).1 hx
      exact (hX _).1
end

set_option maxRecDepth 100000 in
theorem pnt_of_trod {H : Type} {enc : TypeId × Value → H} {W : World} (n : Nat) (cs : List Value) (y : DataW H × List MemPlace) (h : DataW.trod enc Try.prog W 0 (fun _ => true) true n 54 cs = some y) : ∃ x : Pnt, cs = kPt.enc x ∧ x.ok := by
  obtain ⟨xs, n, rfl, _, hl, hx, hf⟩ := DataW.trod_struct Try.underlying54 h
  have hl4 : cs.length = 4 := hl
  match cs, hl4 with
  | [c0, c1, c2, c3], _ =>
    have k3 : Try.prog.cellsOf 3 = 1 := by kernel_rfl
    have k41 : Try.prog.cellsOf 41 = 1 := by kernel_rfl
    have k9 : Try.prog.cellsOf 9 = 1 := by kernel_rfl
    have hx4 : xs.length = 4 := hx
    match xs, hx4 with
    | [x0, x1, x2, x3], _ =>
      have f0 := hf 0 _ rfl
      have f1 := hf 1 _ rfl
      have f2 := hf 2 _ rfl
      have f3 := hf 3 _ rfl
      simp [k3] at f0
      simp [k41] at f1 f2
      simp [k9] at f3
      obtain ⟨a, ha, _, wa⟩ := DataW.trod_int Try.underlying3 f0
      obtain ⟨b, hb, _, wb⟩ := DataW.trod_int Try.underlying41 f1
      obtain ⟨c, hc, _, wc⟩ := DataW.trod_int Try.underlying41 f2
      obtain ⟨d, hd, _, wd⟩ := DataW.trod_string Try.underlying9 f3
      simp at ha hb hc hd
      subst ha hb hc hd
      simp [Lit.wf, IntKind.min, IntKind.max, IntKind.signed, IntKind.bits] at wa wb wc
      simp only [maxLen] at wd
      refine ⟨⟨a, b.toNat, c.toNat, d⟩, ?_, ⟨wa.1, wa.2, ?_, ?_, wd⟩⟩
      · simp only [kPt]
        rw [Int.toNat_of_nonneg (by omega), Int.toNat_of_nonneg (by omega)]
      · show b.toNat < _; omega
      · show c.toNat < _; omega

end Go.Croft
