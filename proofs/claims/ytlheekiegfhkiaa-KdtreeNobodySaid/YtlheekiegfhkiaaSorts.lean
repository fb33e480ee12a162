/- Contracts of the given program, for the proofs of its statements: text Sorts. No conditions beyond those in each theorem. -/
import Derived.Test.YtlheekiegfhkiaaEnds
import Derived.Shelf.SlSortCmp.WholeK
namespace Go.Croft
open Go Go.RowKit Go.Sort Go.Proofs
variable {α : Type} [Inhabited α] {k : Kd α} {m : Mem} {w : World} {F H : HP} {P : Program}

theorem St.grow {H : HP} (h : St m w H) (os : Array Obj) : St m (Go.Sort.grow w os) H := by
  have old : ∀ (b : Nat) (p : Obj), w.heap[b]? = some p → (Go.Sort.grow w os).heap[b]? = some p := fun b p e => by
    show (w.heap ++ os)[b]? = _
    rw [Array.getElem?_append_left (Array.getElem?_eq_some_iff.1 e).1]; exact e
  obtain ⟨x, hx, hh⟩ := h.own
  exact ⟨h.os, h.tape, h.output, h.lo, fun b o e => old b o (h.mem b o e), x, fun b o e => ⟨old b o (hx b o e).1, (hx b o e).2⟩, hh⟩

theorem get_putCells (F : Array Value) (off : Nat) (cs : Array Value) (t : Nat) (ht : t < F.size) (hs : off + F.size ≤ cs.size) : (putCells id off F cs)[off + t]? = some F[t]! := by
  have : off + t < cs.size := by omega
  simp only [putCells, Array.getElem?_mapIdx, Array.getElem?_eq_getElem this, Option.map_some, id]
  rw [if_pos ⟨by omega, by omega⟩]
  congr 2; omega

theorem holds_putCells (cs : Array Value) (off : Nat) (d : Array α) (hs : off + d.size * k.K ≤ cs.size) : Holds k (putCells id off (flatK k.enc k.K d) cs) off d.toList := by
  have hp := k.pos
  refine Holds.of_get (by simp [putCells]; omega) fun i j hi hj => ?_
  have hi' : i < d.size := by simpa using hi
  have hlt : i * k.K + j < d.size * k.K := by
    have : (i + 1) * k.K ≤ d.size * k.K := Nat.mul_le_mul_right _ hi'
    rw [Nat.add_mul] at this; omega
  rw [Nat.add_assoc, get_putCells _ _ _ _ (by simpa using hlt) (by simpa using hs), get_flatK _ _ _ _ hlt]
  have e1 : (i * k.K + j) / k.K = i := by rw [Nat.mul_comm, Nat.mul_add_div hp, Nat.div_eq_of_lt hj]; rfl
  have e2 : (i * k.K + j) % k.K = j := by rw [Nat.mul_comm, Nat.mul_add_mod, Nat.mod_eq_of_lt hj]
  rw [e1, e2]
  have hjl : j < (k.enc d[i]!).length := by rw [k.len]; exact hj
  have e3 : d[i]! = d.toList[i] := by rw [getElem!_pos d i hi']; simp
  rw [e3] at hjl ⊢
  rw [getElem!_pos _ j hjl, List.getElem?_eq_getElem hjl]

theorem holdsK_of {b off : Nat} {cs : Array Value} {l : List α} (hS : St m w (pt b (.cells cs k.ty (0, 0)) ∗∗ F)) (h : Holds k cs off l) : HoldsK k.enc k.K w b off l.toArray := by
  intro t ht
  have hp := k.pos
  have ht' : t < l.length * k.K := by simpa using ht
  have hi : t / k.K < l.length := (Nat.div_lt_iff_lt_mul hp).2 ht'
  have hj := Nat.mod_lt t hp
  refine ⟨?_, hS.free⟩
  rw [hS.cell, get_flatK _ _ _ _ (by simpa using ht')]
  have e : off + t = off + t / k.K * k.K + t % k.K := by have := Nat.div_add_mod t k.K; rw [Nat.mul_comm] at this; omega
  rw [e, h.get hi hj]
  have e3 : l.toArray[t / k.K]! = l[t / k.K] := by rw [getElem!_pos l.toArray _ (by simpa using hi)]; simp
  have hjl : t % k.K < (k.enc l[t / k.K]).length := by rw [k.len]; exact hj
  rw [e3, id, getElem!_pos (k.enc l[t / k.K]) (t % k.K) hjl, List.getElem?_eq_getElem hjl]

theorem St.sorted {b off cap : Nat} {cs : Array Value} {l : List α} (hS : St m w (pt b (.cells cs k.ty (0, 0)) ∗∗ F)) (hl : l.length ≤ cap) (hc : off + cap * k.K ≤ cs.size) (hm : cap ≤ maxLen)
    (n : Nat) (d : Array α) (hd : d.size = l.length) (os : Array Obj) : St m (sortWorldK k.enc k.K w b off n d os) (SlO k (some ⟨b, off, none⟩) cap d.toList ∗∗ F) := by
  have hle : l.length * k.K ≤ cap * k.K := Nat.mul_le_mul_right _ hl
  unfold sortWorldK putRowK putRow
  refine St.grow (SlO.mk (cs := putCells id off (flatK k.enc k.K d) cs) ?_ (by simpa [hd] using hl) (by simpa [putCells] using hc) hm (holds_putCells cs off d (by rw [hd]; omega))) os
  refine hS.put rfl rfl rfl (Nat.le_add_right _ _) ?_ fun c hc _ => ?_
  · simp [mapBlock, Go.Sort.ahead, Array.getElem?_modify, hS.at, onCells]
  · simp only [mapBlock, Go.Sort.ahead, Array.getElem?_modify]
    rw [if_neg (fun e => hc e.symm)]

/-- A call that answers v leaves the world as it was, but for draws and new blocks. -/
theorem Pure.grown {f : FuncId} {args : Array Value} {v : Value} (h : Pure P f args v) (w : World) : Calls P f args w fun e w' => e = .returned v ∧ ∃ q os', w' = Go.Sort.grow (w.drewN q) os' := by
  have hS : St { os := w.os, tape := w.tape, output := w.output, lo := w.drawn, blk := fun b => w.heap[b]? } w emp :=
    ⟨rfl, rfl, rfl, Nat.le_refl _, fun _ _ e => e, ⟨fun _ => none, ⟨(fun _ _ e => nomatch e), fun _ => rfl⟩⟩⟩
  refine (h.at hS).mono fun e w' ⟨he, hS'⟩ => ⟨he, w'.drawn - w.drawn, (w'.heap.toList.drop w.heap.size).toArray, ?_⟩
  have h1 := hS'.os; have h2 := hS'.tape; have h3 := hS'.output; have h4 := hS'.lo; have h5 := hS'.mem
  simp only at h1 h2 h3 h4 h5
  cases w' with
  | mk heap tape drawn os output =>
    simp only [Go.Sort.grow, World.drewN] at *
    subst h1 h2 h3
    congr 1
    · apply Array.ext_getElem?
      intro i
      by_cases hi : i < w.heap.size
      · rw [Array.getElem?_append_left hi]
        exact h5 i _ (Array.getElem?_eq_getElem hi) |>.trans (Array.getElem?_eq_getElem hi).symm
      · rw [Array.getElem?_append_right (by omega)]
        simp only [List.getElem?_toArray, List.getElem?_drop, Array.getElem?_toList]
        congr 1; omega
    · omega

theorem PermIn.perm {d d' : Array α} (h : PermIn 0 d.size d d') : d'.toList.Perm d.toList := by
  obtain ⟨h1, _, h3⟩ := h
  have e1 : d'.extract 0 d.size = d' := by rw [← h1]; simp
  have e2 : d.extract 0 d.size = d := by simp
  rwa [e1, e2] at h3

theorem CmpLays.of_pure {g : Nat} {cf : α → α → Int} (h : ∀ x y, Pure P g #[.agg (k.enc x).toArray, .agg (k.enc y).toArray] (.int .i64 (cf x y))) (blk off size : Nat) (w : World) : Go.Proofs.CmpLays P g #[] k.enc k.K cf blk off size w := by
  intro n os dk _ x y
  exact (h x y).grown _
end Go.Croft
