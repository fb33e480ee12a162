/- Contracts of the given program, for the proofs of its statements: text KdSort. No conditions beyond those in each theorem. -/
import Derived.Test.YtlheekiegfhkiaaKdBy
namespace Go.Croft
open Go Go.RowKit Go.Sort Go.Proofs
variable {P : Program}

/-- A call that answers v in the memory of its world leaves the world as it was, but for draws and new blocks. -/
theorem grown_at {f : FuncId} {args : Array Value} {v : Value} (w : World) (h : ∀ m, (∀ b, m.blk b = w.heap[b]?) → St m w emp → Calls P f args w fun e w' => e = .returned v ∧ St m w' emp) :
    Calls P f args w fun e w' => e = .returned v ∧ ∃ q os', w' = Go.Sort.grow (w.drewN q) os' := by
  have hS : St { os := w.os, tape := w.tape, output := w.output, lo := w.drawn, blk := fun b => w.heap[b]? } w emp :=
    ⟨rfl, rfl, rfl, Nat.le_refl _, fun _ _ e => e, ⟨fun _ => none, ⟨(fun _ _ e => nomatch e), fun _ => rfl⟩⟩⟩
  refine (h _ (fun _ => rfl) hS).mono fun e w' ⟨he, hS'⟩ => ⟨he, w'.drawn - w.drawn, (w'.heap.toList.drop w.heap.size).toArray, ?_⟩
  have h1 := hS'.os; have h2 := hS'.tape; have h3 := hS'.output; have h4 := hS'.lo; have h5 := hS'.mem
  simp only at h1 h2 h3 h4 h5
  cases w' with
  | mk heap tape drawn os output =>
    simp only [Go.Sort.grow, World.drewN] at *
    subst h1 h2 h3
    congr 1
    · apply Array.ext_getElem?
      intro i
      by_cases hi : i < w.heap.size
      · rw [Array.getElem?_append_left hi]
        exact h5 i _ (Array.getElem?_eq_getElem hi) |>.trans (Array.getElem?_eq_getElem hi).symm
      · rw [Array.getElem?_append_right (by omega)]
        simp only [List.getElem?_toArray, List.getElem?_drop, Array.getElem?_toList]
        congr 1; omega
    · omega

theorem sortedIn_pairwise {α : Type} [Inhabited α] {lt : α → α → Bool} {d : Array α} (h : SortedIn lt 0 d.size d) : d.toList.Pairwise fun x y => lt y x = false := by
  rw [List.pairwise_iff_getElem]
  intro i j hi hj hij
  have hi' : i < d.size := by simpa using hi
  have hj' : j < d.size := by simpa using hj
  have := h i j (Nat.zero_le _) hij hj'
  rw [getElem!_pos d j hj', getElem!_pos d i hi'] at this
  simpa using this
end Go.Croft
namespace Go.Proofs
open Go.Croft Go.RowKit Go.Sort Go.Shelf
instance : Inhabited Pnt := ⟨⟨0, 0, 0, ⟨#[]⟩⟩⟩
theorem cmpK_neg (d : Nat) (x y : Pnt) : cmpK d x y < 0 ↔ (partP x d < partP y d ∨ (partP x d = partP y d ∧ x.id < y.id)) := by
  unfold cmpK; rw [orI_neg, orI_neg, cmpI_neg, cmpI_zero, cmpI_neg]; simp [orI]; omega
theorem swoK (d : Nat) : SWO (ltOf (cmpK d)) where
  irrefl x := by simp only [ltOf, decide_eq_false_iff_not, cmpK_neg]; omega
  trans x y z h1 h2 := by simp only [ltOf, decide_eq_true_eq, cmpK_neg] at *; omega
  ntrans x y z h1 h2 := by simp only [ltOf, decide_eq_false_iff_not, cmpK_neg] at *; omega

set_option maxRecDepth 100000 in
theorem sortKd_c (m : Mem) (w : World) (F : HP) (A : Option Addr) (cap : Nat) (l : List Pnt) (d c : Nat) (hd : d ≤ 1000000) (fr : Nat × Nat) (hb : m.blk c = some (.cells #[.int .i64 d] 3 fr)) (hS : St m w (SlO kPt A cap l ∗∗ F)) (h0 : 0 < l.length) (hl : l.length ≤ 1000000000) :
    Calls Try.prog 91 #[.slice A l.length cap, .func (.func 117) #[] #[.pointer (some ⟨c, 0, none⟩)]] w fun e w' => e = .returned (.tuple #[]) ∧ ∃ l', l'.Perm l ∧ l'.Pairwise (fun x y => ¬ cmpK d y x < 0) ∧ St m w' (SlO kPt A cap l' ∗∗ F) := by
  rcases SlO.open hS with ⟨rfl, rfl, rfl, hF⟩ | ⟨b, off, cs, rfl, h2, h3, h4, h5, h6⟩
  · simp at h0
  · have eg : ∀ args w, (callFunc 117 args).run Try.prog w = .ok (.enter 117 args) w := enters_of Try.func117 (by kernel_rfl) rfl
    have hcmp : CmpLays Try.prog 117 #[.pointer (some ⟨c, 0, none⟩)] kPt.enc kPt.K (cmpK d) b off l.toArray.size w := by
      intro n os dk hdk x y
      have hW := h6.sorted h2 h3 h4 n dk (by simpa using hdk) os
      refine grown_at _ fun m' hm' hS' => ?_
      refine (by_c d hd c fr x y m' _ emp ?_ hS').mono fun e w' h => h
      rw [hm']; exact hW.mem _ _ hb
    have hcon := AnyQ.slices_SortFunc Try.sortPt kPt.K Try.isAgg54 Try.sizeOf54 kPt.enc kPt.len kPt.one (cmpK d) (swoK d) 117 #[.pointer (some ⟨c, 0, none⟩)] b off cap l.toArray w eg
      hcmp (holdsK_of h6 h5) h6.lt (by simp; omega)
    change Calls Try.prog 91 _ _ _ at hcon
    simp only [List.size_toArray] at hcon
    refine hcon.mono ?_
    rintro e w' ⟨rfl, d', n, os, hp, hs, rfl⟩
    have hp' := PermIn.perm (d := l.toArray) (by simpa using hp)
    simp only at hp'
    have hsz : d'.size = l.length := by have := hp'.length_eq; simpa using this
    refine ⟨rfl, d'.toList, hp', ?_, h6.sorted h2 h3 h4 n d' hsz os⟩
    rw [← hsz] at hs
    refine (sortedIn_pairwise hs).imp fun h => ?_
    simpa [ltOf] using h
end Go.Proofs
