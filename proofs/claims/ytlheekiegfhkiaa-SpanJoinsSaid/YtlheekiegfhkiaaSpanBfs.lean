/- Contracts of the given program, for the proofs of its statements: text SpanBfs. No conditions beyond those in each theorem. -/
import Derived.Test.YtlheekiegfhkiaaSpanFar
namespace Go.Proofs
open Go.Croft Go.RowKit

theorem nextTo_range {n : Int} {l : List SRoad} {a b : Int} (h : nextTo n l a b) : 0 ≤ b ∧ b < n := by
  obtain ⟨r, _, hb⟩ := h
  unfold bsd at hb
  split at hb
  · split at hb
    · simp at hb; omega
    · simp at hb
  · split at hb
    · simp at hb; omega
    · simp at hb
theorem nextTo_symm {n : Int} {l : List SRoad} {a b : Int} (h : nextTo n l a b) (h0 : 0 ≤ a) (h1 : a < n) : nextTo n l b a := by
  obtain ⟨r, hr, hb⟩ := h
  refine ⟨r, hr, ?_⟩
  unfold bsd at *
  split at hb
  · split at hb
    · simp at hb; subst hb; rename_i e1 e2; subst e1
      by_cases e : r.b = r.a
      · simp [e]; omega
      · rw [if_neg e, if_pos ⟨rfl, h0, h1⟩]; simp
    · simp at hb
  · split at hb
    · simp at hb; subst hb; rename_i e1 e2; obtain ⟨e3, _, _⟩ := e2; subst e3
      rw [if_pos rfl, if_pos ⟨h0, h1⟩]; simp
    · simp at hb

/-- how many places have a distance -/
def lab (d : List Int) : Nat := d.countP fun x => decide (0 ≤ x)
theorem lab_set {d : List Int} {b : Nat} {v : Int} (hb : b < d.length) (h1 : d[b] < 0) (h2 : 0 ≤ v) : lab (d.set b v) = lab d + 1 := by
  unfold lab
  have h3 := List.countP_set (p := fun x : Int => decide (0 ≤ x)) (l := d) (i := b) (a := v) hb
  have e1 : decide (0 ≤ d[b]) = false := by simpa using h1
  have e2 : decide (0 ≤ v) = true := by simpa using h2
  rw [h3, e1, e2]; simp
theorem lab_le (d : List Int) : lab d ≤ d.length := List.countP_le_length

structure FarInv (n : Nat) (l : List SRoad) (tt : Nat) (d : List Int) : Prop where
  len : d.length = n
  lo : ∀ i (h : i < d.length), -1 ≤ d[i]
  to0 : ∃ h : tt < d.length, d[tt] = 0
  prev : ∀ x (h : x < d.length), 0 < d[x] → ∃ y, ∃ h' : y < d.length, nextTo n l y x ∧ d[y] = d[x] - 1
  cnt : ∀ i (h : i < d.length), d[i] < lab d
  zero : ∀ i (h : i < d.length), d[i] = 0 → i = tt

theorem FarInv.step {n : Nat} {l : List SRoad} {tt : Nat} {d : List Int} (H : FarInv n l tt d) {q b : Nat} (hq : q < d.length) (hb : b < d.length) (hq0 : 0 ≤ d[q]) (hb0 : d[b] < 0) (hn : nextTo n l q b) : FarInv n l tt (d.set b (d[q] + 1)) := by
  have hlab := lab_set (v := d[q] + 1) hb hb0 (by omega)
  obtain ⟨ht, ht0⟩ := H.to0
  refine ⟨by simp [H.len], fun i hi => ?_, ⟨by simpa using ht, ?_⟩, fun x hx h0 => ?_, fun i hi => ?_, fun i hi h0 => ?_⟩
  · have hi' : i < d.length := by simpa using hi
    rw [List.getElem_set]; split
    · omega
    · exact H.lo i hi'
  · rw [List.getElem_set_ne (by intro e; subst e; omega)]; exact ht0
  · have hx' : x < d.length := by simpa using hx
    by_cases e : b = x
    · subst e
      refine ⟨q, by simpa using hq, hn, ?_⟩
      rw [List.getElem_set_ne (by intro e; subst e; omega), List.getElem_set_self]; omega
    · rw [List.getElem_set_ne e] at h0
      obtain ⟨y, hy, h1, h2⟩ := H.prev x hx' h0
      refine ⟨y, by simpa using hy, h1, ?_⟩
      have : b ≠ y := by intro e2; subst e2; omega
      rw [List.getElem_set_ne e, List.getElem_set_ne this]; exact h2
  · have hi' : i < d.length := by simpa using hi
    rw [hlab, List.getElem_set]; split
    · have := H.cnt q hq; omega
    · have := H.cnt i hi'; omega
  · have hi' : i < d.length := by simpa using hi
    rw [List.getElem_set] at h0; split at h0
    · omega
    · exact H.zero i hi' h0

/-- what is told at last -/
structure FarOut (n : Nat) (l : List SRoad) (tt : Nat) (d : List Int) : Prop where
  inv : FarInv n l tt d
  closed : ∀ x (h : x < d.length), 0 ≤ d[x] → ∀ b : Nat, nextTo n l x b → ∃ h : b < d.length, 0 ≤ d[b]
end Go.Proofs
