/- Contracts of the given program, for the proofs of its statements: text Sl. No conditions beyond those in each theorem. -/
import Derived.WalkKit
import Derived.Deep.QuietTactic
import Derived.BigQuiet
import Derived.Deep.LoopGhost
import Derived.Deep.DeepFit
import Derived.Deep.DeepCutAuto
import Derived.Lib.Hide
namespace Go.Croft
open Go

/-- What is known of memory and will not turn any more; and the outside world, as it was. -/
structure Mem where
  os : Os
  tape : Nat → Question → Nat
  output : Array (Nat × ByteArray)
  lo : Nat
  blk : Nat → Option Obj

structure Mem.le (m m' : Mem) : Prop where
  os : m'.os = m.os
  tape : m'.tape = m.tape
  output : m'.output = m.output
  lo : m'.lo = m.lo
  blk : ∀ b o, m.blk b = some o → m'.blk b = some o
theorem Mem.le.refl (m : Mem) : m.le m := ⟨rfl, rfl, rfl, rfl, fun _ _ h => h⟩
theorem Mem.le.trans {a b c : Mem} (h : a.le b) (k : b.le c) : a.le c := ⟨k.os.trans h.os, k.tape.trans h.tape, k.output.trans h.output, k.lo.trans h.lo, fun x o hx => k.blk x o (h.blk x o hx)⟩

abbrev PH := Nat → Option Obj
abbrev HP := PH → Prop
def emp : HP := fun h => ∀ b, h b = none
def pt (b : Nat) (o : Obj) : HP := fun h => ∀ c, h c = if c = b then some o else none
def star (A B : HP) : HP := fun h => ∃ h1 h2 : PH, (∀ b, h1 b = none ∨ h2 b = none) ∧ (∀ b, h b = (h1 b).or (h2 b)) ∧ A h1 ∧ B h2
infixr:67 " ∗∗ " => star

structure St (m : Mem) (w : World) (H : HP) : Prop where
  os : w.os = m.os
  tape : w.tape = m.tape
  output : w.output = m.output
  lo : m.lo ≤ w.drawn
  mem : ∀ b o, m.blk b = some o → w.heap[b]? = some o
  own : ∃ h : PH, (∀ b o, h b = some o → w.heap[b]? = some o ∧ m.blk b = none) ∧ H h

theorem star_comm {A B : HP} {h : PH} (hs : star A B h) : star B A h := by
  obtain ⟨h1, h2, hd, hu, ha, hb⟩ := hs
  refine ⟨h2, h1, fun b => (hd b).symm, fun b => ?_, hb, ha⟩
  rw [hu b]
  rcases hd b with e | e <;> simp [e]
theorem star_assoc {A B C : HP} {h : PH} (hs : star (star A B) C h) : star A (star B C) h := by
  obtain ⟨h12, h3, hd, hu, ⟨h1, h2, hd', hu', ha, hb⟩, hc⟩ := hs
  refine ⟨h1, fun b => (h2 b).or (h3 b), fun b => ?_, fun b => ?_, ha, h2, h3, fun b => ?_, fun _ => rfl, hb, hc⟩
  · rcases hd' b with e | e
    · exact .inl e
    · rcases hd b with f | f
      · rw [hu' b, e] at f; simp at f; exact .inl f
      · right; simp [e, f]
  · rw [hu b, hu' b]; cases h1 b <;> simp
  · rcases hd b with f | f
    · rw [hu' b] at f; cases e : h1 b <;> simp [e] at f; exact .inl f
    · exact .inr f
theorem star_assoc' {A B C : HP} {h : PH} (hs : star A (star B C) h) : star (star A B) C h := by
  exact star_comm (star_assoc (star_comm (star_assoc (star_comm hs))))
theorem star_imp {A A' B B' : HP} {h : PH} (ha : ∀ h, A h → A' h) (hb : ∀ h, B h → B' h) (hs : star A B h) : star A' B' h := by
  obtain ⟨h1, h2, hd, hu, a, b⟩ := hs
  exact ⟨h1, h2, hd, hu, ha _ a, hb _ b⟩

theorem St.imp {m : Mem} {w : World} {A B : HP} (h : St m w A) (f : ∀ h, A h → B h) : St m w B :=
  ⟨h.os, h.tape, h.output, h.lo, h.mem, let ⟨x, hx, ha⟩ := h.own; ⟨x, hx, f _ ha⟩⟩
theorem St.comm {m : Mem} {w : World} {A B : HP} (h : St m w (A ∗∗ B)) : St m w (B ∗∗ A) := h.imp fun _ => star_comm
theorem St.assoc {m : Mem} {w : World} {A B C : HP} (h : St m w ((A ∗∗ B) ∗∗ C)) : St m w (A ∗∗ B ∗∗ C) := h.imp fun _ => star_assoc
theorem St.assoc' {m : Mem} {w : World} {A B C : HP} (h : St m w (A ∗∗ B ∗∗ C)) : St m w ((A ∗∗ B) ∗∗ C) := h.imp fun _ => star_assoc'
/-- the second comes first -/
theorem St.swap {m : Mem} {w : World} {A B C : HP} (h : St m w (A ∗∗ B ∗∗ C)) : St m w (B ∗∗ A ∗∗ C) :=
  h.imp fun _ hs => star_assoc (star_imp (fun _ => star_comm) (fun _ x => x) (star_assoc' hs))
theorem St.rot3 {m : Mem} {w : World} {A B C D : HP} (h : St m w (A ∗∗ B ∗∗ C ∗∗ D)) : St m w (C ∗∗ A ∗∗ B ∗∗ D) :=
  (h.imp fun _ => star_imp (fun _ x => x) fun _ hs => star_assoc (star_imp (fun _ => star_comm) (fun _ x => x) (star_assoc' hs))).swap
theorem St.drop {m : Mem} {w : World} {A B : HP} (h : St m w (A ∗∗ B)) : St m w B := by
  obtain ⟨x, hx, h1, h2, hd, hu, ha, hb⟩ := h.own
  refine ⟨h.os, h.tape, h.output, h.lo, h.mem, h2, fun b o e => hx b o ?_, hb⟩
  rw [hu b]
  rcases hd b with f | f
  · simp [f, e]
  · rw [f] at e; cases e
/-- the second is given up -/
theorem St.drop' {m : Mem} {w : World} {A B C : HP} (h : St m w (A ∗∗ B ∗∗ C)) : St m w (A ∗∗ C) := h.swap.drop
theorem St.left {m : Mem} {w : World} {A B : HP} (h : St m w (A ∗∗ B)) : St m w A := h.comm.drop
theorem star_emp {A : HP} {h : PH} (a : A h) : star emp A h := ⟨fun _ => none, h, fun _ => .inl rfl, fun _ => by simp, fun _ => rfl, a⟩
theorem St.addEmp {m : Mem} {w : World} {A : HP} (h : St m w A) : St m w (emp ∗∗ A) := h.imp fun _ => star_emp
theorem St.exists {α : Type} {m : Mem} {w : World} {A : α → HP} {B : HP} (h : St m w ((fun x => ∃ a, A a x) ∗∗ B)) : ∃ a, St m w (A a ∗∗ B) := by
  obtain ⟨x, hx, h1, h2, hd, hu, ⟨a, ha⟩, hb⟩ := h.own
  exact ⟨a, h.os, h.tape, h.output, h.lo, h.mem, x, hx, h1, h2, hd, hu, ha, hb⟩

theorem St.at {m : Mem} {w : World} {b : Nat} {o : Obj} {F : HP} (h : St m w (pt b o ∗∗ F)) : w.heap[b]? = some o := by
  obtain ⟨x, hx, h1, h2, hd, hu, ha, hb⟩ := h.own
  refine (hx b o ?_).1
  rw [hu b, ha b]; simp
theorem St.cell {m : Mem} {w : World} {b i : Nat} {cs : Array Value} {T : TypeId} {fr : Nat × Nat} {F : HP} (h : St m w (pt b (.cells cs T fr) ∗∗ F)) : w.cell? ⟨b, i, none⟩ = cs[i]? := by
  simp [World.cell?, h.at]
theorem St.free {m : Mem} {w : World} {b i : Nat} {cs : Array Value} {T : TypeId} {F : HP} (h : St m w (pt b (.cells cs T (0, 0)) ∗∗ F)) : w.frozen? ⟨b, i, none⟩ = false := by
  simp [World.frozen?, h.at]
theorem St.lt {m : Mem} {w : World} {b : Nat} {o : Obj} {F : HP} (h : St m w (pt b o ∗∗ F)) : b < w.heap.size := (Array.getElem?_eq_some_iff.1 h.at).1
theorem St.drew {m : Mem} {w : World} {H : HP} (h : St m w H) : St m w.drew H := ⟨h.os, h.tape, h.output, Nat.le_succ_of_le h.lo, h.mem, h.own⟩
theorem St.drewN {m : Mem} {w : World} {H : HP} (h : St m w H) (n : Nat) : St m (w.drewN n) H := ⟨h.os, h.tape, h.output, Nat.le_trans h.lo (Nat.le_add_right _ _), h.mem, h.own⟩

theorem St.alloc {m : Mem} {w : World} {H : HP} (h : St m w H) (o : Obj) : St m (w.alloc o) (pt w.heap.size o ∗∗ H) := by
  obtain ⟨x, hx, hh⟩ := h.own
  have old : ∀ b p, w.heap[b]? = some p → (w.alloc o).heap[b]? = some p := fun b p e => by
    have hb := (Array.getElem?_eq_some_iff.1 e).1
    show (w.heap.push o)[b]? = _
    rw [Array.getElem?_push, if_neg (by omega)]; exact e
  refine ⟨h.os, h.tape, h.output, h.lo, fun b p e => old b p (h.mem b p e), fun b => if b = w.heap.size then some o else x b, ?_, fun b => if b = w.heap.size then some o else none, x, ?_, ?_, fun _ => rfl, hh⟩
  · intro b p e
    by_cases hb : b = w.heap.size
    · simp only [hb, if_true] at e
      obtain rfl : o = p := by injection e
      refine ⟨by show (w.heap.push o)[b]? = _; simp [hb], ?_⟩
      cases em : m.blk b with
      | none => rfl
      | some q => have := (Array.getElem?_eq_some_iff.1 (h.mem b q em)).1; omega
    · simp only [hb, if_false] at e
      exact ⟨old b p (hx b p e).1, (hx b p e).2⟩
  · intro b
    by_cases hb : b = w.heap.size
    · right
      cases e : x b with
      | none => rfl
      | some q => have := (Array.getElem?_eq_some_iff.1 (hx b q e).1).1; omega
    · left; simp [hb]
  · intro b
    by_cases hb : b = w.heap.size <;> simp [hb]

/-- what becomes of a block that is owned -/
theorem St.put {m : Mem} {w w' : World} {b : Nat} {o o' : Obj} {F : HP} (h : St m w (pt b o ∗∗ F)) (hos : w'.os = w.os) (ht : w'.tape = w.tape) (hout : w'.output = w.output) (hdr : w.drawn ≤ w'.drawn)
    (hb : w'.heap[b]? = some o') (hold : ∀ c, c ≠ b → c < w.heap.size → w'.heap[c]? = w.heap[c]?) : St m w' (pt b o' ∗∗ F) := by
  obtain ⟨x, hx, h1, h2, hd, hu, ha, hF⟩ := h.own
  have hmb : m.blk b = none := by
    refine (hx b o ?_).2
    rw [hu b, ha b]; simp
  have keep : ∀ c p, c ≠ b → w.heap[c]? = some p → w'.heap[c]? = some p := fun c p hc e => by
    rw [hold c hc (Array.getElem?_eq_some_iff.1 e).1]; exact e
  refine ⟨hos.trans h.os, ht.trans h.tape, hout.trans h.output, Nat.le_trans h.lo hdr, fun c p e => keep c p (fun hc => by rw [hc, hmb] at e; cases e) (h.mem c p e),
    fun c => if c = b then some o' else h2 c, ?_, fun c => if c = b then some o' else none, h2, ?_, ?_, fun _ => rfl, hF⟩
  · intro c p e
    by_cases hc : c = b
    · subst hc
      simp only [if_true] at e
      obtain rfl : o' = p := by injection e
      exact ⟨hb, hmb⟩
    · simp only [hc, if_false] at e
      have hxc : x c = some p := by rw [hu c, ha c]; simp [hc, e]
      exact ⟨keep c p hc (hx c p hxc).1, (hx c p hxc).2⟩
  · intro c
    by_cases hc : c = b
    · right
      rcases hd c with e | e
      · rw [ha c] at e; simp [hc] at e
      · exact e
    · left; simp [hc]
  · intro c
    by_cases hc : c = b <;> simp [hc]

theorem St.setCell {m : Mem} {w : World} {b i : Nat} {cs : Array Value} {T : TypeId} {fr : Nat × Nat} {F : HP} (h : St m w (pt b (.cells cs T fr) ∗∗ F)) (v : Value) :
    St m (w.setCell ⟨b, i, none⟩ v) (pt b (.cells (cs.setIfInBounds i v) T fr) ∗∗ F) := by
  refine h.put rfl rfl rfl (Nat.le_refl _) ?_ fun c hc _ => ?_
  · simp [World.setCell, Array.getElem?_modify, h.at]
  · simp only [World.setCell, Array.getElem?_modify]; rw [if_neg (fun e => hc e.symm)]

/-- What is owned is given up: it will not turn any more. -/
theorem St.freeze {m : Mem} {w : World} {b : Nat} {o : Obj} {F : HP} (h : St m w (pt b o ∗∗ F)) :
    ∃ m' : Mem, m.le m' ∧ m'.blk b = some o ∧ St m' w F := by
  obtain ⟨x, hx, h1, h2, hd, hu, ha, hF⟩ := h.own
  have hxb : x b = some o := by rw [hu b, ha b]; simp
  refine ⟨{ m with blk := fun c => if c = b then some o else m.blk c }, ⟨rfl, rfl, rfl, rfl, fun c p e => ?_⟩, by simp, h.os, h.tape, h.output, h.lo, fun c p e => ?_, h2, fun c p e => ?_, hF⟩
  · have : c ≠ b := fun hc => by rw [hc, (hx b o hxb).2] at e; cases e
    simp [this, e]
  · by_cases hc : c = b
    · subst hc; simp at e; subst e; exact (hx c o hxb).1
    · simp [hc] at e; exact h.mem c p e
  · have hne : c ≠ b := fun hc => by
      rcases hd c with f | f
      · rw [ha c] at f; simp [hc] at f
      · rw [f] at e; cases e
    have hxc : x c = some p := by rw [hu c, ha c]; simp [hne, e]
    exact ⟨(hx c p hxc).1, by simp [hne, (hx c p hxc).2]⟩

theorem St.allocf {m : Mem} {w : World} {H : HP} (h : St m w H) (o : Obj) : ∃ m', m.le m' ∧ m'.blk w.heap.size = some o ∧ St m' (w.alloc o) H := (h.alloc o).freeze
theorem St.cellM {m : Mem} {w : World} {H : HP} (h : St m w H) {b : Nat} {cs : Array Value} {T : TypeId} {fr : Nat × Nat} (hb : m.blk b = some (.cells cs T fr)) (i : Nat) : w.cell? ⟨b, i, none⟩ = cs[i]? := by
  simp [World.cell?, h.mem b _ hb]

/-- what was known before stands -/
theorem St.weak {m m' : Mem} {w : World} {H : HP} (h : St m' w H) (hm : m.le m') : St m w H := by
  obtain ⟨x, hx, hh⟩ := h.own
  refine ⟨h.os.trans hm.os, h.tape.trans hm.tape, h.output.trans hm.output, hm.lo ▸ h.lo, fun b o e => h.mem b o (hm.blk b o e), x, fun b o e => ⟨(hx b o e).1, ?_⟩, hh⟩
  cases em : m.blk b with
  | none => rfl
  | some q => have := hm.blk b q em; rw [(hx b o e).2] at this; cases this

/-- A call that answers v, whatever memory; memory that is known stands. -/
def Pure (P : Program) (f : FuncId) (args : Array Value) (v : Value) : Prop :=
  ∀ (m : Mem) (w : World) (H : HP), St m w H → Calls P f args w fun e w' => e = .returned v ∧ St m w' H
theorem Pure.at {P : Program} {f : FuncId} {args : Array Value} {v : Value} (h : Pure P f args v) {m : Mem} {w : World} {H : HP} (hS : St m w H) : Calls P f args w fun e w' => e = .returned v ∧ St m w' H := h m w H hS
theorem Pure.of_same {P : Program} {f : FuncId} {args : Array Value} {v : Value} (h : ∀ w, Calls P f args w fun e w' => e = .returned v ∧ w' = w) : Pure P f args v :=
  fun _ w _ hS => (h w).mono fun _ _ ⟨he, hw⟩ => ⟨he, hw ▸ hS⟩
end Go.Croft
