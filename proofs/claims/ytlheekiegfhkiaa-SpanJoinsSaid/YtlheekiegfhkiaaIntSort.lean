/- Contracts of the given program, for the proofs of its statements: text IntSort. No conditions beyond those in each theorem. -/
import Derived.Test.YtlheekiegfhkiaaSorts
import Derived.Test.YtlheekiegfhkiaaKinds
import Derived.Test.YtlheekiegfhkiaaLays
namespace Go.Proofs
open Go.Croft Go.RowKit Go.Sort

theorem holds_putCells1 (cs : Array Value) (off : Nat) (d : List Int) (l : List Int) (hp : l <+: d) (hs : off + d.length ≤ cs.size) : Go.Croft.Holds kInt (putCells (Value.int .i64) off d.toArray cs) off l := by
  have hle := hp.length_le
  refine Holds.of_get (by simp [putCells, kInt]; omega) fun i j hi hj => ?_
  have hj0 : j = 0 := by simp [kInt] at hj; omega
  subst hj0
  have : off + i < cs.size := by omega
  simp only [kInt, Nat.mul_one, Nat.add_zero, putCells, Array.getElem?_mapIdx, Array.getElem?_eq_getElem this, Option.map_some]
  rw [if_pos ⟨by omega, by simp; omega⟩]
  have e : off + i - off = i := by omega
  have hd : i < d.length := by omega
  have : d.toArray[i]! = l[i] := by
    rw [getElem!_pos d.toArray i (by simpa using hd)]
    simp [hp.getElem hi]
  simp [e, this]

theorem St.put1 {m : Mem} {w : World} {F : HP} {b off cap : Nat} {cs : Array Value} (hS : St m w (pt b (.cells cs kInt.ty (0, 0)) ∗∗ F)) (hc : off + cap ≤ cs.size) (hm : cap ≤ maxLen)
    (d l : List Int) (hd : d.length ≤ cap) (hp : l <+: d) (n : Nat) (os : Array Obj) : St m (Go.Sort.grow (putRow (Value.int .i64) (Go.Sort.ahead w n) b off d.toArray) os) (SlO kInt (some ⟨b, off, none⟩) cap l ∗∗ F) := by
  have hle := hp.length_le
  refine St.grow (SlO.mk (cs := putCells (Value.int .i64) off d.toArray cs) ?_ (by omega) (by simp [putCells, kInt]; omega) hm (holds_putCells1 cs off d l hp (by omega))) os
  refine St.put hS rfl rfl rfl (Nat.le_add_right _ _) ?_ fun c hc _ => ?_
  · simp [putRow, mapBlock, Go.Sort.ahead, Array.getElem?_modify, hS.at, onCells]
  · simp only [putRow, mapBlock, Go.Sort.ahead, Array.getElem?_modify]
    rw [if_neg (fun e => hc e.symm)]

theorem holds1_of {m : Mem} {w : World} {F : HP} {b off : Nat} {cs : Array Value} {l : List Int} (hS : St m w (pt b (.cells cs kInt.ty (0, 0)) ∗∗ F)) (h : Go.Croft.Holds kInt cs off l) : Go.Sort.Holds (Value.int .i64) w b off l.toArray := by
  intro j hj
  have hj' : j < l.length := by simpa using hj
  refine ⟨?_, St.free hS⟩
  have h1 := h.get hj' (j := 0) (by simp [kInt])
  simp only [kInt, Nat.mul_one, Nat.add_zero] at h1
  rw [St.cell hS, h1, getElem!_pos l.toArray j hj]; simp

theorem sortInt_c (m : Mem) (w : World) (F : HP) (A : Option Addr) (cap : Nat) (l : List Int) (hS : St m w (SlO kInt A cap l ∗∗ F)) (hl : l.length < 4611686018427387904) :
    Calls Try.prog 72 #[.slice A l.length cap] w fun e w' => e = .returned (.tuple #[]) ∧ St m w' (SlO kInt A cap (l.mergeSort fun x y => decide (x ≤ y)) ∗∗ F) := by
  rcases SlO.open hS with ⟨rfl, rfl, rfl, hF⟩ | ⟨b, off, cs, rfl, h2, h3, h4, h5, h6⟩
  · refine (Try.slices_Sort_int_none none 0 w).mono ?_
    rintro e w' ⟨rfl, rfl⟩
    exact ⟨rfl, by simpa using SlO.nil hF⟩
  · refine (Try.slices_Sort_int b off cap l w (holds1_of h6 h5) h6.lt hl).mono ?_
    rintro e w' ⟨rfl, n, os, rfl⟩
    exact ⟨rfl, St.put1 h6 (by simpa [kInt] using h3) h4 _ _ (by simpa using h2) (List.prefix_refl _) n os⟩

theorem mem_compact (l : List Int) (x : Int) : x ∈ Lib.compact l ↔ x ∈ l := by
  unfold Lib.compact Lib.compactUpTo
  simp only [List.mem_map, List.mem_filter, List.mem_range]
  constructor
  · rintro ⟨i, ⟨hi, _⟩, rfl⟩
    rw [getElem!_pos l.toArray i (by simpa using hi)]; simp
  · intro hx
    obtain ⟨j, hj, rfl⟩ := List.getElem_of_mem hx
    clear hx
    induction j with
    | zero => exact ⟨0, ⟨hj, by simp [Lib.keeps]⟩, by rw [getElem!_pos l.toArray 0 (by simpa using hj)]; simp⟩
    | succ j ih =>
      by_cases hk : Lib.keeps l.toArray (j + 1) = true
      · exact ⟨j + 1, ⟨hj, hk⟩, by rw [getElem!_pos l.toArray (j + 1) (by simpa using hj)]; simp⟩
      · obtain ⟨i, h1, h2⟩ := ih (by omega)
        refine ⟨i, h1, h2.trans ?_⟩
        simp only [Lib.keeps] at hk
        rw [getElem!_pos l.toArray (j + 1) (by simpa using hj)] at hk
        simp at hk
        rw [List.getElem?_eq_getElem (by omega : j < l.length)] at hk
        simpa using hk.symm
theorem compact_le (l : List Int) : (Lib.compact l).length ≤ l.length := by
  unfold Lib.compact Lib.compactUpTo
  rw [List.length_map]
  exact Nat.le_trans (List.length_filter_le _ _) (by simp)
theorem compactInt_c (m : Mem) (w : World) (F : HP) (A : Option Addr) (cap : Nat) (l : List Int) (hS : St m w (SlO kInt A cap l ∗∗ F)) :
    Calls Try.prog 73 #[.slice A l.length cap] w fun e w' => e = .returned (.slice A (Lib.compact l).length cap) ∧ St m w' (SlO kInt A cap (Lib.compact l) ∗∗ F) := by
  have hlm := SlO.len_max hS
  rcases SlO.open hS with ⟨rfl, rfl, rfl, hF⟩ | ⟨b, off, cs, rfl, h2, h3, h4, h5, h6⟩
  · refine (Try.slices_Compact_int_empty none 0 w).mono ?_
    rintro e w' ⟨rfl, rfl⟩
    exact ⟨rfl, SlO.nil hF⟩
  · refine (Try.slices_Compact_int b off cap l w (holds1_of h6 h5) hlm h2).mono ?_
    rintro e w' ⟨rfl, q, rfl⟩
    have := compact_le l
    have h7 := St.put1 h6 (by simpa [kInt] using h3) h4 (Lib.compact l ++ List.replicate (l.length - (Lib.compact l).length) 0) (Lib.compact l) (by simp; omega) (List.prefix_append _ _) q #[]
    rw [grow_empty] at h7
    exact ⟨rfl, h7⟩
end Go.Proofs
