/- Contracts of the given program, for the proofs of its statements: text Slc2. No conditions beyond those in each theorem. -/
import Derived.Test.YtlheekiegfhkiaaSlc
namespace Go.Croft
open Go Go.RowKit
variable {α : Type} {P : Program} {k : Kd α} {m : Mem} {w : World} {F : HP} {ops : Array Oper} {rest : List Oper} {o : Oper} {a : Act} {Q : Exit → Act → World → Prop}

theorem addr_at (b off n : Nat) : (Addr.mk b off none).add n = ⟨b, off + n, none⟩ := by
  unfold Addr.add; split <;> simp_all
theorem run_append_empty (hk : KdOk P k) (t ty : TypeId) (ht : P.underlying t = some (.slice k.ty)) {A A2 : Option Addr} {n cap c : Nat} (hn : n ≤ cap) (w : World) :
    (Builtin.append_ #[t, t] ty #[.slice A n cap, .slice A2 0 c]).run P w = .ok (.slice A n cap) w := by
  obtain ⟨⟨i, z, hi, hz, hsz, hby, hzs⟩, _⟩ := hk
  have hf : (Builtin.firstCells i.size 0 (.slice A2 0 c)).run P w = .ok #[] w := by
    cases A2 with
    | none => exact run_firstCells_none w i.size 0 0 c
    | some ad => exact run_firstCells_some (P := P) w i.size 0 ad 0 c [] (by simp) (by simp)
  cases A <;> simp [Builtin.append_, run_underlying ht, sizeOf, typeInfo, hi, Builtin.lenOf, hn, hf, storeCells]

/-- the cells of a slice that is read, in a row -/
theorem SlR.cells {A : Option Addr} {cap : Nat} {l : List α} (h : SlR k m A cap l) (hS : St m w F) (h0 : 0 < l.length) : ∃ ad, A = some ad ∧ ∀ j u, (l.flatMap k.enc)[j]? = some u → w.cell? (ad.add j) = some u := by
  obtain ⟨b, off, rfl, _⟩ := h.at hS h0
  refine ⟨_, rfl, fun j u hu => ?_⟩
  have hK := k.pos
  have hlt : j < l.length * k.K := by rw [← flatMap_length]; exact (List.getElem?_eq_some_iff.1 hu).1
  have hi : j / k.K < l.length := (Nat.div_lt_iff_lt_mul hK).2 hlt
  have hj := Nat.mod_lt j hK
  obtain ⟨b', off', e, hc⟩ := h.at hS hi
  cases e
  have e1 : j = j / k.K * k.K + j % k.K := by have := Nat.div_add_mod j k.K; rw [Nat.mul_comm] at this; omega
  have h2 := flatMap_get k l (j / k.K) (j % k.K) hi hj
  rw [← e1, hu] at h2
  rw [addr_at]
  have h3 := hc (j % k.K) u h2.symm
  have e2 : off + j = off + j / k.K * k.K + j % k.K := by omega
  rw [e2]; exact h3

/-- append(s, x..), x being read, of whatever length -/
theorem run_appendR (hk : KdOk P k) (t ty : TypeId) (ht : P.underlying t = some (.slice k.ty)) {A A2 : Option Addr} {cap c : Nat} {l ys : List α} (hS : St m w (SlO k A cap l ∗∗ F)) (hR : SlR k m A2 c ys)
    (hb : (l.length + ys.length) * k.bytes ≤ 140737488355328) (h63 : l.length + ys.length ≤ 9223372036854775807) :
    ∃ A' cap' w', (Builtin.append_ #[t, t] ty #[.slice A l.length cap, .slice A2 ys.length c]).run P w = .ok (.slice A' (l ++ ys).length cap') w' ∧ St m w' (SlO k A' cap' (l ++ ys) ∗∗ F) := by
  by_cases h0 : 0 < ys.length
  · obtain ⟨ad, rfl, hys⟩ := hR.cells hS.drop h0
    exact run_append_sl hk t ty ht hS ad c ys hys h0 hb h63
  · have e : ys = [] := List.eq_nil_of_length_eq_zero (by omega)
    subst e
    have hr := run_append_empty hk t ty ht (A := A) (A2 := A2) (c := c) (SlO.le_cap hS) w
    refine ⟨A, cap, w, ?_, by rw [List.append_nil]; exact hS⟩
    rw [List.append_nil]; exact hr
theorem wpl_appendR (hk : KdOk P k) (hgd : o.guard = none) (s x : Operand) (t : TypeId) (ho : o.op = .call { callee := .builtin .append, args := #[s, x], argTypes := #[t, t] })
    (ht : P.underlying t = some (.slice k.ty)) (A : Option Addr) (cap : Nat) (l : List α) (hs : a.eval s = .slice A l.length cap) (hS : St m w (SlO k A cap l ∗∗ F))
    (A2 : Option Addr) (c : Nat) (ys : List α) (hx : a.eval x = .slice A2 ys.length c) (hR : SlR k m A2 c ys)
    (hb : (l.length + ys.length) * k.bytes ≤ 140737488355328) (h63 : l.length + ys.length ≤ 9223372036854775807)
    (h : ∀ A' cap' w', St m w' (SlO k A' cap' (l ++ ys) ∗∗ F) → wpList P ops Q rest (a.put o.dst (.slice A' (l ++ ys).length cap')) w') : wpList P ops Q (o :: rest) a w := by
  obtain ⟨A', cap', w', hr, h2⟩ := run_appendR hk t o.type ht hS hR hb h63
  refine wpList_plain hgd fun K hK => ?_
  unfold Oper.wp execOp
  simp only [ho, resolve, invoke, builtin, Sem.run_bind, Sem.run_pure, Result.andThen_ok, List.map_toArray, List.map_cons, List.map_nil, hs, hx, hr]
  exact hK _ _ (h A' cap' w' h2)
/-- the same at a step of a region that draws its order -/
theorem step_appendR {K : Act → World → Prop} {E : Prop} (hk : KdOk P k) (hgd : o.guard = none) (s x : Operand) (t : TypeId) (ho : o.op = .call { callee := .builtin .append, args := #[s, x], argTypes := #[t, t] })
    (ht : P.underlying t = some (.slice k.ty)) (A : Option Addr) (cap : Nat) (l : List α) (hs : a.eval s = .slice A l.length cap) (hS : St m w (SlO k A cap l ∗∗ F))
    (A2 : Option Addr) (c : Nat) (ys : List α) (hx : a.eval x = .slice A2 ys.length c) (hR : SlR k m A2 c ys)
    (hb : (l.length + ys.length) * k.bytes ≤ 140737488355328) (h63 : l.length + ys.length ≤ 9223372036854775807)
    (h : ∀ A' cap' w', St m w' (SlO k A' cap' (l ++ ys) ∗∗ F) → K (a.put o.dst (.slice A' (l ++ ys).length cap')) w') :
    if Region.wanted o (yielded ops a.tmps) = true then Oper.wp P o a w K Q else E := by
  obtain ⟨A', cap', w', hr, h2⟩ := run_appendR hk t o.type ht hS hR hb h63
  refine step_of_wp hgd ?_
  unfold Oper.wp execOp
  simp only [ho, resolve, invoke, builtin, Sem.run_bind, Sem.run_pure, Result.andThen_ok, List.map_toArray, List.map_cons, List.map_nil, hs, hx, hr]
  exact h A' cap' w' h2
/-- x[:hi], x[lo:], as the walk takes them: equations -/
theorem run_slice_to (hk : KdOk P k) (t : TypeId) (ht : P.underlying t = some (.slice k.ty)) (A : Option Addr) (n cap hi : Nat) (kd : IntKind) (hhi : hi ≤ n) (hn : n ≤ cap) (w : World) :
    (Instr.sliceAt t (.slice A n cap) none (some (.int kd hi)) none).run P w = .ok (.slice (sliceAddr A cap 0 k.K) hi cap) w := by
  simpa [Act.eval] using run_slice_sl (a := ⟨#[], []⟩) hk t ht A n cap none (some (.const (.int kd hi))) 0 hi rfl ⟨kd, by simp [Act.eval]⟩ (Nat.zero_le _) hhi hn w
theorem run_slice_from (hk : KdOk P k) (t : TypeId) (ht : P.underlying t = some (.slice k.ty)) (A : Option Addr) (n cap lo : Nat) (z : Int) (hz : z = lo) (kd : IntKind) (hlo : lo ≤ n) (hn : n ≤ cap) (w : World) :
    (Instr.sliceAt t (.slice A n cap) (some (.int kd z)) none none).run P w = .ok (.slice (sliceAddr A cap lo k.K) (n - lo) (cap - lo)) w := by
  subst hz
  simpa [Act.eval] using run_slice_sl (a := ⟨#[], []⟩) hk t ht A n cap (some (.const (.int kd lo))) none lo n ⟨kd, by simp [Act.eval]⟩ rfl hlo (Nat.le_refl _) hn w
end Go.Croft
