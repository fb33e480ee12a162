/- Contracts of the given program, for the proofs of its statements: Sl, Slc, Ends, Kinds. No conditions beyond those in each theorem. -/
import Derived.WalkKit
import Derived.Deep.QuietTactic
import Derived.BigQuiet
import Derived.Deep.LoopGhost
import Derived.Deep.DeepFit
import Derived.Deep.DeepCutAuto
import Derived.Lib.Hide
import Derived.Great.BuildSlice
import Derived.Laws.MakeOwn
import Derived.Laws.Rows
import Derived.KernelRfl
import Derived.Test.YtdlmjacejhlboaaProg
namespace Go.Croft
open Go

/-- What is known of memory and will not turn any more; and the outside world, as it was. -/
structure Mem where
  os : Os
  tape : Nat → Question → Nat
  output : Array (Nat × ByteArray)
  lo : Nat
  blk : Nat → Option Obj

structure Mem.le (m m' : Mem) : Prop where
  os : m'.os = m.os
  tape : m'.tape = m.tape
  output : m'.output = m.output
  lo : m'.lo = m.lo
  blk : ∀ b o, m.blk b = some o → m'.blk b = some o
theorem Mem.le.refl (m : Mem) : m.le m := ⟨rfl, rfl, rfl, rfl, fun _ _ h => h⟩
theorem Mem.le.trans {a b c : Mem} (h : a.le b) (k : b.le c) : a.le c := ⟨k.os.trans h.os, k.tape.trans h.tape, k.output.trans h.output, k.lo.trans h.lo, fun x o hx => k.blk x o (h.blk x o hx)⟩

abbrev PH := Nat → Option Obj
abbrev HP := PH → Prop
def emp : HP := fun h => ∀ b, h b = none
def pt (b : Nat) (o : Obj) : HP := fun h => ∀ c, h c = if c = b then some o else none
def star (A B : HP) : HP := fun h => ∃ h1 h2 : PH, (∀ b, h1 b = none ∨ h2 b = none) ∧ (∀ b, h b = (h1 b).or (h2 b)) ∧ A h1 ∧ B h2

structure St (m : Mem) (w : World) (H : HP) : Prop where
  os : w.os = m.os
  tape : w.tape = m.tape
  output : w.output = m.output
  lo : m.lo ≤ w.drawn
  mem : ∀ b o, m.blk b = some o → w.heap[b]? = some o
  own : ∃ h : PH, (∀ b o, h b = some o → w.heap[b]? = some o ∧ m.blk b = none) ∧ H h

theorem star_comm {A B : HP} {h : PH} (hs : star A B h) : star B A h := by
  obtain ⟨h1, h2, hd, hu, ha, hb⟩ := hs
  refine ⟨h2, h1, fun b => (hd b).symm, fun b => ?_, hb, ha⟩
  rw [hu b]
  rcases hd b with e | e <;> simp [e]
theorem star_assoc {A B C : HP} {h : PH} (hs : star (star A B) C h) : star A (star B C) h := by
  obtain ⟨h12, h3, hd, hu, ⟨h1, h2, hd', hu', ha, hb⟩, hc⟩ := hs
  refine ⟨h1, fun b => (h2 b).or (h3 b), fun b => ?_, fun b => ?_, ha, h2, h3, fun b => ?_, fun _ => rfl, hb, hc⟩
  · rcases hd' b with e | e
    · exact .inl e
    · rcases hd b with f | f
      · rw [hu' b, e] at f; simp at f; exact .inl f
      · right; simp [e, f]
  · rw [hu b, hu' b]; cases h1 b <;> simp
  · rcases hd b with f | f
    · rw [hu' b] at f; cases e : h1 b <;> simp [e] at f; exact .inl f
    · exact .inr f
theorem star_assoc' {A B C : HP} {h : PH} (hs : star A (star B C) h) : star (star A B) C h := by
  exact star_comm (star_assoc (star_comm (star_assoc (star_comm hs))))
theorem star_imp {A A' B B' : HP} {h : PH} (ha : ∀ h, A h → A' h) (hb : ∀ h, B h → B' h) (hs : star A B h) : star A' B' h := by
  obtain ⟨h1, h2, hd, hu, a, b⟩ := hs
  exact ⟨h1, h2, hd, hu, ha _ a, hb _ b⟩

theorem St.imp {m : Mem} {w : World} {A B : HP} (h : St m w A) (f : ∀ h, A h → B h) : St m w B :=
  ⟨h.os, h.tape, h.output, h.lo, h.mem, let ⟨x, hx, ha⟩ := h.own; ⟨x, hx, f _ ha⟩⟩
theorem St.comm {m : Mem} {w : World} {A B : HP} (h : St m w (star A B)) : St m w (star B A) := h.imp fun _ => star_comm
theorem St.assoc {m : Mem} {w : World} {A B C : HP} (h : St m w (star ((star A B)) C)) : St m w (star A (star B C)) := h.imp fun _ => star_assoc
theorem St.assoc' {m : Mem} {w : World} {A B C : HP} (h : St m w (star A (star B C))) : St m w (star ((star A B)) C) := h.imp fun _ => star_assoc'
/-- the second comes first -/
theorem St.swap {m : Mem} {w : World} {A B C : HP} (h : St m w (star A (star B C))) : St m w (star B (star A C)) :=
  h.imp fun _ hs => star_assoc (star_imp (fun _ => star_comm) (fun _ x => x) (star_assoc' hs))
theorem St.rot3 {m : Mem} {w : World} {A B C D : HP} (h : St m w (star A (star B (star C D)))) : St m w (star C (star A (star B D))) :=
  (h.imp fun _ => star_imp (fun _ x => x) fun _ hs => star_assoc (star_imp (fun _ => star_comm) (fun _ x => x) (star_assoc' hs))).swap
theorem St.drop {m : Mem} {w : World} {A B : HP} (h : St m w (star A B)) : St m w B := by
  obtain ⟨x, hx, h1, h2, hd, hu, ha, hb⟩ := h.own
  refine ⟨h.os, h.tape, h.output, h.lo, h.mem, h2, fun b o e => hx b o ?_, hb⟩
  rw [hu b]
  rcases hd b with f | f
  · simp [f, e]
  · rw [f] at e; cases e
/-- the second is given up -/
theorem St.drop' {m : Mem} {w : World} {A B C : HP} (h : St m w (star A (star B C))) : St m w (star A C) := h.swap.drop
theorem St.left {m : Mem} {w : World} {A B : HP} (h : St m w (star A B)) : St m w A := h.comm.drop
theorem star_emp {A : HP} {h : PH} (a : A h) : star emp A h := ⟨fun _ => none, h, fun _ => .inl rfl, fun _ => by simp, fun _ => rfl, a⟩
theorem St.addEmp {m : Mem} {w : World} {A : HP} (h : St m w A) : St m w (star emp A) := h.imp fun _ => star_emp
theorem St.exists {α : Type} {m : Mem} {w : World} {A : α → HP} {B : HP} (h : St m w (star ((fun x => ∃ a, A a x)) B)) : ∃ a, St m w (star (A a) B) := by
  obtain ⟨x, hx, h1, h2, hd, hu, ⟨a, ha⟩, hb⟩ := h.own
  exact ⟨a, h.os, h.tape, h.output, h.lo, h.mem, x, hx, h1, h2, hd, hu, ha, hb⟩

theorem St.at {m : Mem} {w : World} {b : Nat} {o : Obj} {F : HP} (h : St m w (star (pt b o) F)) : w.heap[b]? = some o := by
  obtain ⟨x, hx, h1, h2, hd, hu, ha, hb⟩ := h.own
  refine (hx b o ?_).1
  rw [hu b, ha b]; simp
theorem St.cell {m : Mem} {w : World} {b i : Nat} {cs : Array Value} {T : TypeId} {fr : Nat × Nat} {F : HP} (h : St m w (star (pt b (.cells cs T fr)) F)) : w.cell? ⟨b, i, none⟩ = cs[i]? := by
  simp [World.cell?, h.at]
theorem St.free {m : Mem} {w : World} {b i : Nat} {cs : Array Value} {T : TypeId} {F : HP} (h : St m w (star (pt b (.cells cs T (0, 0))) F)) : w.frozen? ⟨b, i, none⟩ = false := by
  simp [World.frozen?, h.at]
theorem St.lt {m : Mem} {w : World} {b : Nat} {o : Obj} {F : HP} (h : St m w (star (pt b o) F)) : b < w.heap.size := (Array.getElem?_eq_some_iff.1 h.at).1
theorem St.drew {m : Mem} {w : World} {H : HP} (h : St m w H) : St m w.drew H := ⟨h.os, h.tape, h.output, Nat.le_succ_of_le h.lo, h.mem, h.own⟩
theorem St.drewN {m : Mem} {w : World} {H : HP} (h : St m w H) (n : Nat) : St m (w.drewN n) H := ⟨h.os, h.tape, h.output, Nat.le_trans h.lo (Nat.le_add_right _ _), h.mem, h.own⟩

theorem St.alloc {m : Mem} {w : World} {H : HP} (h : St m w H) (o : Obj) : St m (w.alloc o) (star (pt w.heap.size o) H) := by
  obtain ⟨x, hx, hh⟩ := h.own
  have old : ∀ b p, w.heap[b]? = some p → (w.alloc o).heap[b]? = some p := fun b p e => by
    have hb := (Array.getElem?_eq_some_iff.1 e).1
    show (w.heap.push o)[b]? = _
    rw [Array.getElem?_push, if_neg (by omega)]; exact e
  refine ⟨h.os, h.tape, h.output, h.lo, fun b p e => old b p (h.mem b p e), fun b => if b = w.heap.size then some o else x b, ?_, fun b => if b = w.heap.size then some o else none, x, ?_, ?_, fun _ => rfl, hh⟩
  · intro b p e
    by_cases hb : b = w.heap.size
    · simp only [hb, if_true] at e
      obtain rfl : o = p := by injection e
      refine ⟨by show (w.heap.push o)[b]? = _; simp [hb], ?_⟩
      cases em : m.blk b with
      | none => rfl
      | some q => have := (Array.getElem?_eq_some_iff.1 (h.mem b q em)).1; omega
    · simp only [hb, if_false] at e
      exact ⟨old b p (hx b p e).1, (hx b p e).2⟩
  · intro b
    by_cases hb : b = w.heap.size
    · right
      cases e : x b with
      | none => rfl
      | some q => have := (Array.getElem?_eq_some_iff.1 (hx b q e).1).1; omega
    · left; simp [hb]
  · intro b
    by_cases hb : b = w.heap.size <;> simp [hb]

/-- what becomes of a block that is owned -/
theorem St.put {m : Mem} {w w' : World} {b : Nat} {o o' : Obj} {F : HP} (h : St m w (star (pt b o) F)) (hos : w'.os = w.os) (ht : w'.tape = w.tape) (hout : w'.output = w.output) (hdr : w.drawn ≤ w'.drawn)
    (hb : w'.heap[b]? = some o') (hold : ∀ c, c ≠ b → c < w.heap.size → w'.heap[c]? = w.heap[c]?) : St m w' (star (pt b o') F) := by
  obtain ⟨x, hx, h1, h2, hd, hu, ha, hF⟩ := h.own
  have hmb : m.blk b = none := by
    refine (hx b o ?_).2
    rw [hu b, ha b]; simp
  have keep : ∀ c p, c ≠ b → w.heap[c]? = some p → w'.heap[c]? = some p := fun c p hc e => by
    rw [hold c hc (Array.getElem?_eq_some_iff.1 e).1]; exact e
  refine ⟨hos.trans h.os, ht.trans h.tape, hout.trans h.output, Nat.le_trans h.lo hdr, fun c p e => keep c p (fun hc => by rw [hc, hmb] at e; cases e) (h.mem c p e),
    fun c => if c = b then some o' else h2 c, ?_, fun c => if c = b then some o' else none, h2, ?_, ?_, fun _ => rfl, hF⟩
  · intro c p e
    by_cases hc : c = b
    · subst hc
      simp only [if_true] at e
      obtain rfl : o' = p := by injection e
      exact ⟨hb, hmb⟩
    · simp only [hc, if_false] at e
      have hxc : x c = some p := by rw [hu c, ha c]; simp [hc, e]
      exact ⟨keep c p hc (hx c p hxc).1, (hx c p hxc).2⟩
  · intro c
    by_cases hc : c = b
    · right
      rcases hd c with e | e
      · rw [ha c] at e; simp [hc] at e
      · exact e
    · left; simp [hc]
  · intro c
    by_cases hc : c = b <;> simp [hc]

theorem St.setCell {m : Mem} {w : World} {b i : Nat} {cs : Array Value} {T : TypeId} {fr : Nat × Nat} {F : HP} (h : St m w (star (pt b (.cells cs T fr)) F)) (v : Value) :
    St m (w.setCell ⟨b, i, none⟩ v) (star (pt b (.cells (cs.setIfInBounds i v) T fr)) F) := by
  refine h.put rfl rfl rfl (Nat.le_refl _) ?_ fun c hc _ => ?_
  · simp [World.setCell, Array.getElem?_modify, h.at]
  · simp only [World.setCell, Array.getElem?_modify]; rw [if_neg (fun e => hc e.symm)]

/-- What is owned is given up: it will not turn any more. -/
theorem St.freeze {m : Mem} {w : World} {b : Nat} {o : Obj} {F : HP} (h : St m w (star (pt b o) F)) :
    ∃ m' : Mem, m.le m' ∧ m'.blk b = some o ∧ St m' w F := by
  obtain ⟨x, hx, h1, h2, hd, hu, ha, hF⟩ := h.own
  have hxb : x b = some o := by rw [hu b, ha b]; simp
  refine ⟨{ m with blk := fun c => if c = b then some o else m.blk c }, ⟨rfl, rfl, rfl, rfl, fun c p e => ?_⟩, by simp, h.os, h.tape, h.output, h.lo, fun c p e => ?_, h2, fun c p e => ?_, hF⟩
  · have : c ≠ b := fun hc => by rw [hc, (hx b o hxb).2] at e; cases e
    simp [this, e]
  · by_cases hc : c = b
    · subst hc; simp at e; subst e; exact (hx c o hxb).1
    · simp [hc] at e; exact h.mem c p e
  · have hne : c ≠ b := fun hc => by
      rcases hd c with f | f
      · rw [ha c] at f; simp [hc] at f
      · rw [f] at e; cases e
    have hxc : x c = some p := by rw [hu c, ha c]; simp [hne, e]
    exact ⟨(hx c p hxc).1, by simp [hne, (hx c p hxc).2]⟩

theorem St.allocf {m : Mem} {w : World} {H : HP} (h : St m w H) (o : Obj) : ∃ m', m.le m' ∧ m'.blk w.heap.size = some o ∧ St m' (w.alloc o) H := (h.alloc o).freeze
theorem St.cellM {m : Mem} {w : World} {H : HP} (h : St m w H) {b : Nat} {cs : Array Value} {T : TypeId} {fr : Nat × Nat} (hb : m.blk b = some (.cells cs T fr)) (i : Nat) : w.cell? ⟨b, i, none⟩ = cs[i]? := by
  simp [World.cell?, h.mem b _ hb]

/-- what was known before stands -/
theorem St.weak {m m' : Mem} {w : World} {H : HP} (h : St m' w H) (hm : m.le m') : St m w H := by
  obtain ⟨x, hx, hh⟩ := h.own
  refine ⟨h.os.trans hm.os, h.tape.trans hm.tape, h.output.trans hm.output, hm.lo ▸ h.lo, fun b o e => h.mem b o (hm.blk b o e), x, fun b o e => ⟨(hx b o e).1, ?_⟩, hh⟩
  cases em : m.blk b with
  | none => rfl
  | some q => have := hm.blk b q em; rw [(hx b o e).2] at this; cases this

/-- A call that answers v, whatever memory; memory that is known stands. -/
def Pure (P : Program) (f : FuncId) (args : Array Value) (v : Value) : Prop :=
  ∀ (m : Mem) (w : World) (H : HP), St m w H → Calls P f args w fun e w' => e = .returned v ∧ St m w' H
theorem Pure.at {P : Program} {f : FuncId} {args : Array Value} {v : Value} (h : Pure P f args v) {m : Mem} {w : World} {H : HP} (hS : St m w H) : Calls P f args w fun e w' => e = .returned v ∧ St m w' H := h m w H hS
theorem Pure.of_same {P : Program} {f : FuncId} {args : Array Value} {v : Value} (h : ∀ w, Calls P f args w fun e w' => e = .returned v ∧ w' = w) : Pure P f args v :=
  fun _ w _ hS => (h w).mono fun _ _ ⟨he, hw⟩ => ⟨he, hw ▸ hS⟩
end Go.Croft

namespace Go.Croft
open Go Go.RowKit

/-! Kinds of elements, and slices of them: read (in memory that does not turn) or owned. -/
structure Kd (α : Type) where
  K : Nat
  ty : TypeId
  bytes : Nat
  enc : α → List Value
  len : ∀ x, (enc x).length = K
  one : ∀ x v, v ∈ enc x → v.oneCell' = true
  pos : 0 < K

structure KdOk {α : Type} (P : Program) (k : Kd α) : Prop where
  ok : ∃ (i : TypeInfo) (z : Value), P.info? k.ty = some i ∧ i.zero = some z ∧ i.size = k.K ∧ i.bytes = k.bytes ∧ z.cells.size = k.K
  small : k.K ≤ 16777216

variable {α : Type}

theorem flatMap_length (k : Kd α) (l : List α) : (l.flatMap k.enc).length = l.length * k.K := by
  induction l with
  | nil => simp
  | cons x l ih => simp [ih, k.len, Nat.add_mul]; omega

theorem flatMap_get (k : Kd α) : ∀ (l : List α) (i j : Nat) (h : i < l.length), j < k.K → (l.flatMap k.enc)[i * k.K + j]? = (k.enc l[i])[j]?
  | [], i, j, h, _ => by simp at h
  | x :: l, 0, j, _, hj => by
    simp only [Nat.zero_mul, Nat.zero_add, List.flatMap_cons, List.getElem_cons_zero]
    rw [List.getElem?_append_left (by rw [k.len]; exact hj)]
  | x :: l, i + 1, j, h, hj => by
    have := flatMap_get k l i j (by simpa using h) hj
    simp only [List.flatMap_cons, List.getElem_cons_succ]
    rw [List.getElem?_append_right (by rw [k.len, Nat.add_mul]; omega), k.len, ← this]
    congr 1
    rw [Nat.add_mul]; omega

/-- the cells from 'off' on hold the elements of l -/
def Holds (k : Kd α) (cs : Array Value) (off : Nat) (l : List α) : Prop := (cs.toList.drop off).take (l.length * k.K) = l.flatMap k.enc

theorem Holds.get {k : Kd α} {cs : Array Value} {off : Nat} {l : List α} (h : Holds k cs off l) {i j : Nat} (hi : i < l.length) (hj : j < k.K) : cs[off + i * k.K + j]? = (k.enc l[i])[j]? := by
  have h2 := flatMap_get k l i j hi hj
  rw [← h, List.getElem?_take] at h2
  have hlt : i * k.K + j < l.length * k.K := by
    have : (i + 1) * k.K ≤ l.length * k.K := Nat.mul_le_mul_right _ hi
    rw [Nat.add_mul] at this; omega
  rw [if_pos hlt, List.getElem?_drop] at h2
  rw [← h2, Array.getElem?_toList]
  congr 1; omega
theorem Holds.nil (k : Kd α) (cs : Array Value) (off : Nat) : Holds k cs off [] := by simp [Holds]
theorem Holds.size {k : Kd α} {cs : Array Value} {off : Nat} {l : List α} (h : Holds k cs off l) (h0 : 0 < l.length) : off + l.length * k.K ≤ cs.size := by
  have := congrArg List.length h
  have e : cs.toList.length = cs.size := by simp
  rw [flatMap_length, List.length_take, List.length_drop, e] at this
  have hp := k.pos
  have : 1 * 1 ≤ l.length * k.K := Nat.mul_le_mul h0 hp
  omega
theorem Holds.of_get {k : Kd α} {cs : Array Value} {off : Nat} {l : List α} (hs : off + l.length * k.K ≤ cs.size)
    (h : ∀ i j (hi : i < l.length), j < k.K → cs[off + i * k.K + j]? = (k.enc l[i])[j]?) : Holds k cs off l := by
  apply List.ext_getElem?
  intro n
  have hK := k.pos
  rw [List.getElem?_take]
  by_cases hn : n < l.length * k.K
  · rw [if_pos hn, List.getElem?_drop]
    have hi : n / k.K < l.length := (Nat.div_lt_iff_lt_mul hK).2 hn
    have hj := Nat.mod_lt n hK
    have e : n = n / k.K * k.K + n % k.K := by have := Nat.div_add_mod n k.K; rw [Nat.mul_comm] at this; omega
    have h1 := h (n / k.K) (n % k.K) hi hj
    have h2 := flatMap_get k l (n / k.K) (n % k.K) hi hj
    rw [← e] at h2
    rw [h2, ← h1, Array.getElem?_toList]
    congr 1; omega
  · rw [if_neg hn, List.getElem?_eq_none (by rw [flatMap_length]; omega)]

/-- a slice that is read -/
def SlR (k : Kd α) (m : Mem) (A : Option Addr) (cap : Nat) (l : List α) : Prop :=
  (A = none ∧ l = [] ∧ cap = 0) ∨
  ∃ b off, A = some ⟨b, off, none⟩ ∧ l.length ≤ cap ∧ cap ≤ maxLen ∧ (0 < cap → ∃ cs ty fr, m.blk b = some (.cells cs ty fr) ∧ off + cap * k.K ≤ cs.size ∧ Holds k cs off l)
/-- a slice whose block is owned -/
def SlO (k : Kd α) (A : Option Addr) (cap : Nat) (l : List α) : HP := fun h =>
  (A = none ∧ l = [] ∧ cap = 0 ∧ emp h) ∨
  ∃ b off cs, A = some ⟨b, off, none⟩ ∧ l.length ≤ cap ∧ off + cap * k.K ≤ cs.size ∧ cap ≤ maxLen ∧ Holds k cs off l ∧ pt b (.cells cs k.ty (0, 0)) h

section
variable {k : Kd α} {m m' : Mem} {w : World} {A : Option Addr} {cap : Nat} {l : List α} {F : HP}

theorem SlR.mono (h : SlR k m A cap l) (hm : m.le m') : SlR k m' A cap l := by
  rcases h with h | ⟨b, off, h1, h2, h3, h4⟩
  · exact .inl h
  · exact .inr ⟨b, off, h1, h2, h3, fun hc => let ⟨cs, ty, fr, a, r⟩ := h4 hc; ⟨cs, ty, fr, hm.blk _ _ a, r⟩⟩
theorem SlR.nil (k : Kd α) (m : Mem) : SlR k m none 0 [] := .inl ⟨rfl, rfl, rfl⟩
theorem SlR.le_cap (h : SlR k m A cap l) : l.length ≤ cap := by
  rcases h with ⟨_, rfl, rfl⟩ | ⟨b, off, h1, h2, _⟩
  · simp
  · exact h2
theorem SlR.le_max (h : SlR k m A cap l) : cap ≤ 9223372036854775807 := by
  rcases h with ⟨_, rfl, rfl⟩ | ⟨b, off, h1, h2, h5, _⟩
  · simp
  · simp only [maxLen] at h5; omega
theorem SlR.len_max (h : SlR k m A cap l) : l.length ≤ 9223372036854775807 := Nat.le_trans h.le_cap h.le_max
/-- the cells of an element -/
theorem SlR.at (h : SlR k m A cap l) (hS : St m w F) {i : Nat} (hi : i < l.length) :
    ∃ b off, A = some ⟨b, off, none⟩ ∧ ∀ j u, (k.enc l[i])[j]? = some u → w.cell? ⟨b, off + i * k.K + j, none⟩ = some u := by
  rcases h with ⟨_, rfl, _⟩ | ⟨b, off, h1, h3, h5, h7⟩
  · simp at hi
  · obtain ⟨cs, ty, fr, h2, h4, h6⟩ := h7 (by omega)
    refine ⟨b, off, h1, fun j u hu => ?_⟩
    have hj : j < k.K := by rw [← k.len l[i]]; exact (List.getElem?_eq_some_iff.1 hu).1
    have := h6.get hi hj
    simp only [World.cell?, hS.mem b _ h2, Option.isSome_none, Bool.false_eq_true, if_false]
    rw [this, hu]

theorem St.pull {A B : HP} {p : Prop} (h : St m w (star A B)) (f : ∀ h, A h → p) : p := by
  obtain ⟨x, hx, h1, h2, hd, hu, ha, hb⟩ := h.own
  exact f _ ha
theorem St.imp1 {A A' B : HP} (h : St m w (star A B)) (f : ∀ h, A h → A' h) : St m w (star A' B) := h.imp fun _ => star_imp f fun _ x => x

theorem SlO.le_cap (h : St m w (star (SlO k A cap l) F)) : l.length ≤ cap := h.pull fun _ hh => by
  rcases hh with ⟨_, rfl, rfl, _⟩ | ⟨b, off, cs, h1, h2, _⟩
  · simp
  · exact h2
theorem SlO.le_max (h : St m w (star (SlO k A cap l) F)) : cap ≤ 9223372036854775807 := h.pull fun _ hh => by
  rcases hh with ⟨_, rfl, rfl, _⟩ | ⟨b, off, cs, h1, h2, h3, h4, _⟩
  · simp
  · simp only [maxLen] at h4; omega
theorem SlO.len_max (h : St m w (star (SlO k A cap l) F)) : l.length ≤ 9223372036854775807 := Nat.le_trans (SlO.le_cap h) (SlO.le_max h)
/-- its form -/
theorem SlO.open (h : St m w (star (SlO k A cap l) F)) : (A = none ∧ l = [] ∧ cap = 0 ∧ St m w F) ∨
    ∃ b off cs, A = some ⟨b, off, none⟩ ∧ l.length ≤ cap ∧ off + cap * k.K ≤ cs.size ∧ cap ≤ maxLen ∧ Holds k cs off l ∧ St m w (star (pt b (.cells cs k.ty (0, 0))) F) := by
  obtain ⟨x, hx, h1, h2, hd, hu, ha, hb⟩ := h.own
  rcases ha with ⟨e1, e2, e3, _⟩ | ⟨b, off, cs, e1, e2, e3, e4, e5, e6⟩
  · exact .inl ⟨e1, e2, e3, h.drop⟩
  · exact .inr ⟨b, off, cs, e1, e2, e3, e4, e5, h.os, h.tape, h.output, h.lo, h.mem, x, hx, h1, h2, hd, hu, e6, hb⟩
theorem SlO.mk {b off : Nat} {cs : Array Value} (h : St m w (star (pt b (.cells cs k.ty (0, 0))) F)) (h1 : l.length ≤ cap) (h2 : off + cap * k.K ≤ cs.size) (h3 : cap ≤ maxLen) (h4 : Holds k cs off l) :
    St m w (star (SlO k (some ⟨b, off, none⟩) cap l) F) := h.imp1 fun _ hh => .inr ⟨b, off, cs, rfl, h1, h2, h3, h4, hh⟩
theorem SlO.nil (h : St m w F) : St m w (star (SlO k none 0 []) F) := h.addEmp.imp1 fun _ hh => .inl ⟨rfl, rfl, rfl, hh⟩
theorem SlO.at (h : St m w (star (SlO k A cap l) F)) {i : Nat} (hi : i < l.length) :
    ∃ b off, A = some ⟨b, off, none⟩ ∧ (∀ j u, (k.enc l[i])[j]? = some u → w.cell? ⟨b, off + i * k.K + j, none⟩ = some u) ∧ ∀ j, w.frozen? ⟨b, j, none⟩ = false := by
  rcases SlO.open h with ⟨_, rfl, _⟩ | ⟨b, off, cs, h1, h2, h3, h4, h5, h6⟩
  · simp at hi
  · refine ⟨b, off, h1, fun j u hu => ?_, fun j => h6.free⟩
    have hj : j < k.K := by rw [← k.len l[i]]; exact (List.getElem?_eq_some_iff.1 hu).1
    rw [h6.cell, h5.get hi hj, hu]
theorem SlO.freeze (h : St m w (star (SlO k A cap l) F)) : ∃ m', m.le m' ∧ St m' w F ∧ SlR k m' A cap l := by
  rcases SlO.open h with ⟨rfl, rfl, rfl, hF⟩ | ⟨b, off, cs, h1, h2, h3, h4, h5, h6⟩
  · exact ⟨m, .refl m, hF, SlR.nil _ _⟩
  · obtain ⟨m', hm, hb, hS⟩ := h6.freeze
    exact ⟨m', hm, hS, .inr ⟨b, off, h1, h2, h4, fun _ => ⟨cs, _, _, hb, h3, h5⟩⟩⟩
theorem SlO.set {b off i : Nat} {x : α} {v : Value} (h : St m w (star (SlO k (some ⟨b, off, none⟩) cap l) F)) (hi : i < l.length) (hK : k.K = 1) (hx : k.enc x = [v]) :
    St m (w.setCell ⟨b, off + i, none⟩ v) (star (SlO k (some ⟨b, off, none⟩) cap (l.set i x)) F) := by
  rcases SlO.open h with ⟨h1, _⟩ | ⟨b', off', cs, h1, h2, h3, h4, h5, h6⟩
  · cases h1
  · injection h1 with h1; injection h1 with e1 e2 _; subst e1 e2
    refine SlO.mk (h6.setCell (i := off + i) v) (by simpa using h2) (by simpa using h3) h4 (Holds.of_get ?_ ?_)
    · have : l.length * k.K ≤ cap * k.K := Nat.mul_le_mul_right _ h2
      simp; omega
    · intro n j hn hj
      rw [hK] at hj; obtain rfl : j = 0 := by omega
      have hn' : n < l.length := by simpa using hn
      rw [Array.getElem?_setIfInBounds]
      by_cases e : i = n
      · subst e
        have : off + i < cs.size := by
          have := h5.size (by omega); rw [hK] at this; omega
        simp [hK, hx, this]
      · rw [if_neg (by rw [hK]; omega), h5.get hn' (by omega)]
        simp [List.getElem_set, e]
end

/-- a slice literal, or any new block: it can be read -/
theorem SlR.fresh {k : Kd α} {m : Mem} {w : World} {H : HP} (l : List α) (hS : St m w H) (cs : Array Value) (hcs : cs = (l.flatMap k.enc).toArray) (hl : l.length ≤ 9223372036854775807) :
    ∃ m', m.le m' ∧ St m' (w.alloc (.cells cs k.ty)) H ∧ SlR k m' (some ⟨w.heap.size, 0, none⟩) l.length l := by
  subst hcs
  obtain ⟨m1, l1, b1, S1⟩ := hS.allocf (.cells (l.flatMap k.enc).toArray k.ty)
  refine ⟨m1, l1, S1, .inr ⟨_, 0, rfl, Nat.le_refl _, by simp only [maxLen]; omega, fun _ => ⟨_, _, _, b1, by rw [List.size_toArray, flatMap_length]; omega, ?_⟩⟩⟩
  unfold Holds
  rw [List.drop_zero, ← flatMap_length, List.take_of_length_le (Nat.le_refl _)]

theorem SlO.fresh {k : Kd α} {m : Mem} {w : World} {H : HP} (l : List α) (hS : St m w H) (cs : Array Value) (hcs : cs = (l.flatMap k.enc).toArray) (hl : l.length ≤ 9223372036854775807) :
    St m (w.alloc (.cells cs k.ty)) (star (SlO k (some ⟨w.heap.size, 0, none⟩) l.length l) H) := by
  subst hcs
  refine SlO.mk (hS.alloc _) (Nat.le_refl _) (by rw [List.size_toArray, flatMap_length]; omega) (by simp only [maxLen]; omega) ?_
  unfold Holds
  rw [List.drop_zero, ← flatMap_length, List.take_of_length_le (Nat.le_refl _)]

/-! ### The operations -/
section
variable {P : Program} {k : Kd α} {m : Mem} {w : World} {F : HP} {ops : Array Oper} {rest : List Oper} {o o1 o2 : Oper} {a : Act} {Q : Exit → Act → World → Prop}

theorem Holds.append {cs cs' : Array Value} {off : Nat} {l ys : List α} (h : Holds k cs off l) (hs : off + (l.length + ys.length) * k.K ≤ cs'.size)
    (e1 : ∀ n, off ≤ n → n < off + l.length * k.K → cs'[n]? = cs[n]?) (e2 : ∀ n, n < ys.length * k.K → cs'[off + l.length * k.K + n]? = (ys.flatMap k.enc)[n]?) : Holds k cs' off (l ++ ys) := by
  refine Holds.of_get (by simpa using hs) fun i j hi hj => ?_
  by_cases hl : i < l.length
  · have : (i + 1) * k.K ≤ l.length * k.K := Nat.mul_le_mul_right _ hl
    rw [Nat.add_mul] at this
    rw [e1 _ (by omega) (by omega), h.get hl hj, List.getElem_append_left hl]
  · have hi' : i - l.length < ys.length := by simp at hi; omega
    have : (i - l.length + 1) * k.K ≤ ys.length * k.K := Nat.mul_le_mul_right _ hi'
    rw [Nat.add_mul] at this
    have e : off + i * k.K + j = off + l.length * k.K + ((i - l.length) * k.K + j) := by
      have : i * k.K = l.length * k.K + (i - l.length) * k.K := by rw [← Nat.add_mul]; congr 1; omega
      omega
    rw [e, e2 _ (by omega), flatMap_get k ys _ j hi' hj, List.getElem_append_right (by omega)]

theorem run_append_sl (hk : KdOk P k) (t ty : TypeId) (ht : P.underlying t = some (.slice k.ty)) {A : Option Addr} {cap : Nat} {l : List α} (hS : St m w (star (SlO k A cap l) F))
    (ad : Addr) (c : Nat) (ys : List α) (hys : ∀ j u, (ys.flatMap k.enc)[j]? = some u → w.cell? (ad.add j) = some u) (h0 : 0 < ys.length)
    (hb : (l.length + ys.length) * k.bytes ≤ 140737488355328) (h63 : l.length + ys.length ≤ 9223372036854775807) :
    ∃ A' cap' w', (Builtin.append_ #[t, t] ty #[.slice A l.length cap, .slice (some ad) ys.length c]).run P w = .ok (.slice A' (l ++ ys).length cap') w' ∧ St m w' (star (SlO k A' cap' (l ++ ys)) F) := by
  obtain ⟨⟨i, z, hi, hz, hsz, hby, hzs⟩, _⟩ := hk
  have hyl : (ys.flatMap k.enc).length = ys.length * i.size := by rw [flatMap_length, hsz]
  have fresh : ∀ (cap' old : Nat), cap' = grownCap w (l.length + ys.length) old k.ty → ∀ hF : St m w F,
      St m (w.drew.alloc (.cells ((l.flatMap k.enc).toArray ++ (ys.flatMap k.enc).toArray ++ Builtin.zeroCells z.cells (cap' - (l.length + ys.length))) k.ty)) (star (SlO k (some ⟨w.heap.size, 0, none⟩) cap' (l ++ ys)) F) := by
    intro cap' old hc hF
    have hge : l.length + ys.length ≤ cap' := hc ▸ grownCap_ge w _ old k.ty
    have hlm : cap' ≤ maxLen := hc ▸ grownCap_le_maxLen w _ old k.ty (by simp only [maxLen]; omega)
    have hsize : ((l.flatMap k.enc).toArray ++ (ys.flatMap k.enc).toArray ++ Builtin.zeroCells z.cells (cap' - (l.length + ys.length))).size = cap' * k.K := by
      simp only [Array.size_append, List.size_toArray, size_zeroCells, hzs, flatMap_length, ← Nat.add_mul]
      congr 1; omega
    refine SlO.mk (hF.drew.alloc _) (by simpa using hge) (by rw [hsize]; omega) hlm ?_
    unfold Holds
    simp only [List.drop_zero, Array.toList_append, List.append_assoc, List.length_append]
    rw [← List.append_assoc, ← List.flatMap_append, ← List.length_append, ← flatMap_length]
    exact List.take_left
  rcases SlO.open hS with ⟨rfl, rfl, rfl, hF⟩ | ⟨b, off, cs, rfl, h2, h3, h4, h5, h6⟩
  · have hr := run_append_nil (P := P) w t ty k.ty i z ht hi hz ad ys.length c (ys.flatMap k.enc) hyl hys h0 (by omega) (by rw [hby]; simp at hb; omega)
    have hg := fresh _ 0 rfl hF
    simp only [List.length_nil, Nat.zero_add, List.nil_append, List.flatMap_nil, List.append_toArray, List.append_nil, Array.empty_append] at hg ⊢
    exact ⟨_, _, _, hr, hg⟩
  · by_cases hroom : l.length + ys.length ≤ cap
    · have hcl : cs.toList.length = cs.size := by simp
      have hf := run_firstCells_some (P := P) w i.size ys.length ad ys.length c (ys.flatMap k.enc) hyl hys
      have hcap : (l.length + ys.length) * k.K ≤ cap * k.K := Nat.mul_le_mul_right _ hroom
      rw [Nat.add_mul] at hcap
      have hst := run_storeCells_at P b (off + l.length * i.size) k.ty (ys.flatMap k.enc) 0 cs w h6.at (by rw [hyl, hsz]; omega) (fun v hv => by
        obtain ⟨x, _, hx⟩ := List.mem_flatMap.1 hv; exact k.one x v hx)
      simp only [Nat.add_zero] at hst
      have hadd : (⟨b, off, none⟩ : Addr).add (l.length * i.size) = ⟨b, off + l.length * i.size, none⟩ := by unfold Addr.add; split <;> simp_all
      refine ⟨some ⟨b, off, none⟩, cap, _, ?_, SlO.mk (h6.put (w' := w.setRow b (cs.toList.take (off + l.length * i.size) ++ (ys.flatMap k.enc) ++ cs.toList.drop (off + l.length * i.size + (ys.flatMap k.enc).length)).toArray) (o' := .cells _ k.ty (0, 0)) rfl rfl rfl (Nat.le_refl _) (setRow_heap w b cs _ k.ty _ h6.at) fun c hc _ => setRow_other w b c _ hc) (by simpa using hroom) ?_ h4 ?_⟩
      · simp [Builtin.append_, run_underlying ht, sizeOf, typeInfo, hi, Builtin.lenOf, hroom, hf, hadd, hst]
      · simp only [List.size_toArray, List.length_append, List.length_take, List.length_drop, Array.length_toList, flatMap_length, hsz]
        omega
      · refine h5.append ?_ (fun n hn1 hn2 => ?_) fun n hn => ?_
        · simp only [List.size_toArray, List.length_append, List.length_take, List.length_drop, Array.length_toList, flatMap_length, hsz, Nat.add_mul]; omega
        · simp only [List.getElem?_toArray, hsz]
          rw [List.append_assoc, List.getElem?_append_left (by rw [List.length_take, hcl]; omega), List.getElem?_take, if_pos hn2, Array.getElem?_toList]
        · simp only [List.getElem?_toArray, hsz]
          have hl : (List.take (off + l.length * k.K) cs.toList).length = off + l.length * k.K := by rw [List.length_take, hcl]; omega
          rw [List.append_assoc, List.getElem?_append_right (by omega), hl, List.getElem?_append_left (by rw [flatMap_length]; omega)]
          congr 1; omega
    · have hold : ∀ j u, (l.flatMap k.enc)[j]? = some u → w.cell? ((⟨b, off, none⟩ : Addr).add j) = some u := by
        intro j u hu
        have hadd : (⟨b, off, none⟩ : Addr).add j = ⟨b, off + j, none⟩ := by unfold Addr.add; split <;> simp_all
        have hlt : j < l.length * k.K := by rw [← flatMap_length]; exact (List.getElem?_eq_some_iff.1 hu).1
        rw [hadd, h6.cell]
        rw [← h5, List.getElem?_take, if_pos hlt, List.getElem?_drop, Array.getElem?_toList] at hu
        exact hu
      have hr := run_append_grow (P := P) w t ty k.ty i z ht hi hz ⟨b, off, none⟩ l.length cap (l.flatMap k.enc) (by rw [flatMap_length, hsz]) hold ad ys.length c (ys.flatMap k.enc) hyl hys (by omega) (by omega) (by rw [hby]; exact growslice_fits (by omega) hb)
      have hg := fresh _ cap rfl h6.drop
      rw [List.length_append]
      exact ⟨_, _, _, hr, hg⟩

/-- append(s, x..): both slices; the second may stand anywhere -/
theorem wpl_append (hk : KdOk P k) (hgd : o.guard = none) (s x : Operand) (t : TypeId) (ho : o.op = .call { callee := .builtin .append, args := #[s, x], argTypes := #[t, t] })
    (ht : P.underlying t = some (.slice k.ty)) (A : Option Addr) (cap : Nat) (l : List α) (hs : a.eval s = .slice A l.length cap) (hS : St m w (star (SlO k A cap l) F))
    (ad : Addr) (c : Nat) (ys : List α) (hx : a.eval x = .slice (some ad) ys.length c) (hys : ∀ j u, (ys.flatMap k.enc)[j]? = some u → w.cell? (ad.add j) = some u) (h0 : 0 < ys.length)
    (hb : (l.length + ys.length) * k.bytes ≤ 140737488355328) (h63 : l.length + ys.length ≤ 9223372036854775807)
    (h : ∀ A' cap' w', St m w' (star (SlO k A' cap' (l ++ ys)) F) → wpList P ops Q rest (a.put o.dst (.slice A' (l ++ ys).length cap')) w') : wpList P ops Q (o :: rest) a w := by
  obtain ⟨A', cap', w', hr, h2⟩ := run_append_sl hk t o.type ht hS ad c ys hys h0 hb h63
  refine wpList_plain hgd fun K hK => ?_
  unfold Oper.wp execOp
  simp only [ho, resolve, invoke, builtin, Sem.run_bind, Sem.run_pure, Result.andThen_ok, List.map_toArray, List.map_cons, List.map_nil, hs, hx, hr]
  exact hK _ _ (h A' cap' w' h2)

theorem run_buildSlice1 (hk : KdOk P k) (w : World) (t : TypeId) (ht : P.underlying t = some (.slice k.ty)) (y : α) (v : Value) (hv : v.cells.toList = k.enc y) :
    (Instr.buildSlice t 1 #[(0, v)]).run P w = .ok (.slice (some ⟨w.heap.size, 0, none⟩) 1 1) (w.alloc (.cells (k.enc y).toArray k.ty)) := by
  obtain ⟨⟨i, z, hi, hz, hsz, hby, hzs⟩, hsm⟩ := hk
  have hp := k.pos
  have hvs : v.cells.size = i.size := by rw [hsz, ← k.len y, ← hv, Array.length_toList]
  refine run_buildSlice w t k.ty 1 #[(0, v)] _ i z ht hi hz (by omega) (by omega) ?_
  have hf := Go.Great.fill_whole (s := i.size) (by omega) [v] ((Array.range (1 * i.size)).map (z.cells[· % z.cells.size]!)) (by simpa using hvs) (by simp)
  simp only [List.zipIdx_cons, List.zipIdx_nil, List.map_cons, List.map_nil, List.flatMap_cons, List.flatMap_nil, List.append_nil, hv] at hf
  exact hf

/-- append(s, y): the one-element slice, and the append -/
theorem wpl_append1 (hk : KdOk P k) (hg1 : o1.guard = none) (hg2 : o2.guard = none) (t : TypeId) (e s : Operand) (d : Tmp) (ho1 : o1.op = .buildSlice t 1 #[(0, e)]) (hd : o1.dst = some d)
    (ho2 : o2.op = .call { callee := .builtin .append, args := #[s, .tmp d], argTypes := #[t, t] }) (ht : P.underlying t = some (.slice k.ty)) (hdl : d < a.tmps.size)
    (y : α) (v : Value) (hv : a.eval e = v) (hvc : v.cells.toList = k.enc y)
    (A : Option Addr) (cap : Nat) (l : List α) (hs : ∀ u, (a.put (some d) u).eval s = .slice A l.length cap) (hS : St m w (star (SlO k A cap l) F))
    (hb : (l.length + 1) * k.bytes ≤ 140737488355328) (h63 : l.length + 1 ≤ 9223372036854775807)
    (h : ∀ g A' cap' w', St m w' (star (SlO k A' cap' (l ++ [y])) F) → wpList P ops Q rest ((a.put (some d) (.slice (some ⟨g, 0, none⟩) 1 1)).put o2.dst (.slice A' (l.length + 1) cap')) w') :
    wpList P ops Q (o1 :: o2 :: rest) a w := by
  refine wpList_plain hg1 fun K hK => ?_
  unfold Oper.wp execOp
  simp only [ho1, Sem.run_bind, List.map_toArray, List.map_cons, List.map_nil, hv, run_buildSlice1 hk w t ht y v hvc, Result.andThen_ok, Oper.upon, Sem.run_pure, hd]
  refine hK _ _ ?_
  have hal : St m (w.alloc (.cells (k.enc y).toArray k.ty)) (star (SlO k A cap l) F) := (hS.alloc _).drop
  refine wpl_append hk hg2 s (.tmp d) t ho2 ht A cap l (hs _) hal ⟨w.heap.size, 0, none⟩ 1 [y] ?_ (fun j u hu => ?_) (by simp) hb h63 fun A' cap' w' h' => by
    have := h w.heap.size A' cap' w' h'
    simpa using this
  · simp [Act.put, Act.eval, hdl]
  · have hadd : (⟨w.heap.size, 0, none⟩ : Addr).add j = ⟨w.heap.size, j, none⟩ := by unfold Addr.add; split <;> simp_all
    rw [hadd, World.cell?_alloc_new]
    simpa using hu

theorem step_of_wp {K : Act → World → Prop} {E : Prop} (hgd : o.guard = none) (h : o.wp P a w K Q) : if Region.wanted o (yielded ops a.tmps) = true then Oper.wp P o a w K Q else E := by
  have hw : Region.wanted o (yielded ops a.tmps) = true := by simp [Region.wanted, hgd]
  rw [if_pos hw]; exact h
/-- append(s, x..) as one operation -/
theorem wp_append_sl {K : Act → World → Prop} (hk : KdOk P k) (s x : Operand) (t : TypeId) (ho : o.op = .call { callee := .builtin .append, args := #[s, x], argTypes := #[t, t] })
    (ht : P.underlying t = some (.slice k.ty)) (A : Option Addr) (cap : Nat) (l : List α) (hs : a.eval s = .slice A l.length cap) (hS : St m w (star (SlO k A cap l) F))
    (ad : Addr) (c : Nat) (ys : List α) (hx : a.eval x = .slice (some ad) ys.length c) (hys : ∀ j u, (ys.flatMap k.enc)[j]? = some u → w.cell? (ad.add j) = some u) (h0 : 0 < ys.length)
    (hb : (l.length + ys.length) * k.bytes ≤ 140737488355328) (h63 : l.length + ys.length ≤ 9223372036854775807)
    (h : ∀ A' cap' w', St m w' (star (SlO k A' cap' (l ++ ys)) F) → K (a.put o.dst (.slice A' (l ++ ys).length cap')) w') : o.wp P a w K Q := by
  obtain ⟨A', cap', w', hr, h2⟩ := run_append_sl hk t o.type ht hS ad c ys hys h0 hb h63
  unfold Oper.wp execOp
  simp only [ho, resolve, invoke, builtin, Sem.run_bind, Sem.run_pure, Result.andThen_ok, List.map_toArray, List.map_cons, List.map_nil, hs, hx, hr]
  exact h A' cap' w' h2
/-- append(s, y), the one-element slice being made: at a step of a region that draws its order -/
theorem step_append1 {K : Act → World → Prop} {E : Prop} (hk : KdOk P k) (hgd : o.guard = none) (s x : Operand) (t : TypeId) (ho : o.op = .call { callee := .builtin .append, args := #[s, x], argTypes := #[t, t] })
    (ht : P.underlying t = some (.slice k.ty)) (A : Option Addr) (cap : Nat) (l : List α) (hs : a.eval s = .slice A l.length cap) (y : α) (cs : Array Value) (hcs : cs = (k.enc y).toArray) (ty : TypeId) (hty : ty = k.ty) (hS : St m w (star (SlO k A cap l) F))
    (g : Nat) (hg : g = w.heap.size) (hx : a.eval x = .slice (some ⟨g, 0, none⟩) 1 1)
    (hb : (l.length + 1) * k.bytes ≤ 140737488355328) (h63 : l.length + 1 ≤ 9223372036854775807)
    (h : ∀ A' cap' w', St m w' (star (SlO k A' cap' (l ++ [y])) F) → K (a.put o.dst (.slice A' (l.length + 1) cap')) w') :
    if Region.wanted o (yielded ops a.tmps) = true then Oper.wp P o a (w.alloc (.cells cs ty)) K Q else E := by
  subst hcs hg hty
  refine step_of_wp hgd (wp_append_sl hk s x t ho ht A cap l hs (hS.alloc _).drop ⟨w.heap.size, 0, none⟩ 1 [y] hx (fun j u hu => ?_) (by simp) hb h63 fun A' cap' w' h' => by simpa using h A' cap' w' h')
  have hadd : (⟨w.heap.size, 0, none⟩ : Addr).add j = ⟨w.heap.size, j, none⟩ := by unfold Addr.add; split <;> simp_all
  rw [hadd, World.cell?_alloc_new]
  simpa using hu

theorem run_make_sl (hk : KdOk P k) (t : TypeId) (ht : P.underlying t = some (.slice k.ty)) (x0 : α) (hz : ((P.info? k.ty).bind (·.zero)).map (·.cells.toList) = some (k.enc x0)) (n : Nat) (hb : n * k.bytes ≤ 281474976710656) (h63 : n ≤ 9223372036854775807) (hS : St m w F) :
    ∃ A' w', (Instr.makeSlice t (.int .i64 n) (.int .i64 n)).run P w = .ok (.slice A' n n) w' ∧ St m w' (star (SlO k A' n (List.replicate n x0)) F) := by
  obtain ⟨⟨i, z, hi, hz', hsz, hby, hzs⟩, _⟩ := hk
  have hp := k.pos
  have hr := run_make (P := P) w t k.ty i z ht hi hz' .i64 .i64 n n (by omega) (by omega) (by rw [hby]; have : ((k.bytes * n : Nat) : Int) ≤ 281474976710656 := by rw [Nat.mul_comm]; omega
                                                                                              rwa [Int.natCast_mul] at this) (by omega)
  simp only [Int.toNat_natCast, hsz] at hr
  have hzc : z.cells.toList = k.enc x0 := by simpa [hi, hz'] using hz
  refine ⟨_, _, hr, SlO.mk (hS.alloc _) (by simp) (by simp [size_madeCells]) (by simp only [maxLen]; omega) (Holds.of_get (by simp [size_madeCells]) fun a j ha hj => ?_)⟩
  have ha' : a < n := by simpa using ha
  have hlt : a * k.K + j < n * k.K := by
    have : (a + 1) * k.K ≤ n * k.K := Nat.mul_le_mul_right _ ha'
    rw [Nat.add_mul] at this; omega
  have e2 : (a * k.K + j) % k.K = j := by rw [Nat.mul_comm, Nat.mul_add_mod, Nat.mod_eq_of_lt hj]
  simp only [madeCells, Nat.zero_add, List.getElem_replicate]
  rw [Array.getElem?_map, Array.getElem?_range, if_pos hlt, Option.map_some, hzs, e2, ← hzc]
  rw [getElem!_pos z.cells j (by rw [hzs]; exact hj), Array.getElem?_toList, Array.getElem?_eq_getElem (by rw [hzs]; exact hj)]

/-- make([]T, n) -/
theorem wpl_make (hk : KdOk P k) (hgd : o.guard = none) (len cp : Operand) (t : TypeId) (ho : o.op = .makeSlice t len cp) (ht : P.underlying t = some (.slice k.ty))
    (x0 : α) (hz : ((P.info? k.ty).bind (·.zero)).map (·.cells.toList) = some (k.enc x0)) (n : Nat) (hl : a.eval len = .int .i64 n) (hc : a.eval cp = .int .i64 n) (hS : St m w F) (hb : n * k.bytes ≤ 281474976710656) (h63 : n ≤ 9223372036854775807)
    (h : ∀ A' w', St m w' (star (SlO k A' n (List.replicate n x0)) F) → wpList P ops Q rest (a.put o.dst (.slice A' n n)) w') : wpList P ops Q (o :: rest) a w := by
  obtain ⟨A', w', hr, h2⟩ := run_make_sl hk t ht x0 hz n hb h63 hS
  refine wpList_plain hgd fun K hK => ?_
  unfold Oper.wp execOp
  simp only [ho, Sem.run_bind, hl, hc, hr, Result.andThen_ok]
  exact hK _ _ (h A' w' h2)

/-! ### s[lo:hi] -/
/-- what a bound of a slice expression is worth -/
def boundIs (a : Act) (x : Option Operand) (dflt v : Nat) : Prop := match x with
  | none => v = dflt
  | some e => ∃ kd, a.eval e = .int kd v
def sliceAddr (A : Option Addr) (cap lo K : Nat) : Option Addr := if cap = lo then A else A.map (·.add (lo * K))

theorem run_slice_sl (hk : KdOk P k) (t : TypeId) (ht : P.underlying t = some (.slice k.ty)) (A : Option Addr) (n cap : Nat) (x1 x2 : Option Operand) (lo hi : Nat) (h1 : boundIs a x1 0 lo) (h2 : boundIs a x2 n hi) (hlo : lo ≤ hi) (hhi : hi ≤ n) (hn : n ≤ cap) (w : World) :
    (Instr.sliceAt t (.slice A n cap) (x1.map a.eval) (x2.map a.eval) none).run P w = .ok (.slice (sliceAddr A cap lo k.K) (hi - lo) (cap - lo)) w := by
  obtain ⟨⟨i, z, hi', hz', hsz, hby, hzs⟩, _⟩ := hk
  have g1 : (0 : Int) ≤ lo ∧ (lo : Int) ≤ hi := by omega
  have g2 : (0 : Int) ≤ hi ∧ (hi : Int) ≤ cap := by omega
  cases x1 with
  | none =>
    simp only [boundIs] at h1; subst h1
    cases x2 with
    | none => simp only [boundIs] at h2; subst h2; simp [Instr.sliceAt, run_underlying ht, Instr.slice, Instr.sliceBounds, sizeOf, typeInfo, hi', sliceAddr, hsz]
    | some e2 => obtain ⟨k2, h2⟩ := h2; simp [Instr.sliceAt, run_underlying ht, Instr.slice, Instr.sliceBounds, Instr.sliceBound, asIntOf, sizeOf, typeInfo, hi', sliceAddr, hsz, h2, g2]; all_goals (intro h; omega)
  | some e1 =>
    obtain ⟨k1, h1⟩ := h1
    cases x2 with
    | none => simp only [boundIs] at h2; subst h2; simp [Instr.sliceAt, run_underlying ht, Instr.slice, Instr.sliceBounds, Instr.sliceBound, asIntOf, sizeOf, typeInfo, hi', sliceAddr, hsz, h1, g1]; all_goals (intro h; omega)
    | some e2 => obtain ⟨k2, h2⟩ := h2; simp [Instr.sliceAt, run_underlying ht, Instr.slice, Instr.sliceBounds, Instr.sliceBound, asIntOf, sizeOf, typeInfo, hi', sliceAddr, hsz, h1, h2, g1, g2]; rw [if_pos (by omega), if_pos (by omega)]

theorem Holds.cut {cs : Array Value} {off : Nat} {l : List α} (h : Holds k cs off l) (lo hi : Nat) (hlo : lo ≤ hi) (hhi : hi ≤ l.length) (hs : off + l.length * k.K ≤ cs.size) : Holds k cs (off + lo * k.K) ((l.take hi).drop lo) := by
  have hlen : ((l.take hi).drop lo).length = hi - lo := by simp; omega
  have h1 : hi * k.K ≤ l.length * k.K := Nat.mul_le_mul_right _ hhi
  have h2 : lo * k.K + (hi - lo) * k.K = hi * k.K := by rw [← Nat.add_mul]; congr 1; omega
  refine Holds.of_get (by rw [hlen]; omega) fun i j hi' hj => ?_
  rw [hlen] at hi'
  have e : off + lo * k.K + i * k.K + j = off + (lo + i) * k.K + j := by rw [Nat.add_mul]; omega
  rw [e, h.get (by omega) hj]
  simp [List.getElem_drop, List.getElem_take]
theorem sliceAddr_of {b off cap lo K : Nat} (h : lo ≤ cap) : sliceAddr (some ⟨b, off, none⟩) cap lo K = some ⟨b, if cap = lo then off else off + lo * K, none⟩ := by
  unfold sliceAddr
  split
  · rfl
  · simp only [Option.map_some, Addr.add]
    split <;> simp_all

theorem SlR.cut {A : Option Addr} {cap : Nat} {l : List α} (h : SlR k m A cap l) (lo hi : Nat) (hlo : lo ≤ hi) (hhi : hi ≤ l.length) : SlR k m (sliceAddr A cap lo k.K) (cap - lo) ((l.take hi).drop lo) := by
  rcases h with ⟨rfl, rfl, rfl⟩ | ⟨b, off, rfl, h3, h5, h9⟩
  · exact .inl ⟨by simp [sliceAddr], by simp, by omega⟩
  · have hlen : ((l.take hi).drop lo).length = hi - lo := by simp; omega
    have hle : l.length * k.K ≤ cap * k.K := Nat.mul_le_mul_right _ h3
    have hsp : (cap - lo) * k.K + lo * k.K = cap * k.K := by rw [← Nat.add_mul]; congr 1; omega
    rw [sliceAddr_of (by omega)]
    by_cases e : cap = lo
    · rw [if_pos e]
      have : (l.take hi).drop lo = [] := List.eq_nil_of_length_eq_zero (by rw [hlen]; omega)
      rw [this]
      exact .inr ⟨b, off, rfl, by simp, by omega, fun hc => absurd hc (by omega)⟩
    · rw [if_neg e]
      obtain ⟨cs, ty, fr, h2, h4, h6⟩ := h9 (by omega)
      exact .inr ⟨b, _, rfl, by rw [hlen]; omega, by omega, fun _ => ⟨cs, ty, fr, h2, by omega, h6.cut lo hi hlo hhi (by omega)⟩⟩
theorem SlO.cut {A : Option Addr} {cap : Nat} {l : List α} (h : St m w (star (SlO k A cap l) F)) (lo hi : Nat) (hlo : lo ≤ hi) (hhi : hi ≤ l.length) : St m w (star (SlO k (sliceAddr A cap lo k.K) (cap - lo) ((l.take hi).drop lo)) F) := by
  rcases SlO.open h with ⟨rfl, rfl, rfl, hF⟩ | ⟨b, off, cs, rfl, h3, h4, h5, h6, h7⟩
  · have e : sliceAddr none 0 lo k.K = none := by simp [sliceAddr]
    have e2 : (([] : List α).take hi).drop lo = [] := by simp
    rw [e, e2, Nat.zero_sub]; exact SlO.nil hF
  · have hlen : ((l.take hi).drop lo).length = hi - lo := by simp; omega
    have hle : l.length * k.K ≤ cap * k.K := Nat.mul_le_mul_right _ h3
    have hsp : (cap - lo) * k.K + lo * k.K = cap * k.K := by rw [← Nat.add_mul]; congr 1; omega
    rw [sliceAddr_of (by omega)]
    by_cases e : cap = lo
    · rw [if_pos e]
      have : (l.take hi).drop lo = [] := List.eq_nil_of_length_eq_zero (by rw [hlen]; omega)
      rw [this]
      exact SlO.mk h7 (by simp) (by subst e; simp; omega) (by omega) (Holds.nil _ _ _)
    · rw [if_neg e]
      exact SlO.mk h7 (by rw [hlen]; omega) (by omega) (by omega) (h6.cut lo hi hlo hhi (by omega))

/-- x[lo:hi] of a slice: what is known of it is said by SlR.cut, SlO.cut -/
theorem wpl_slice (hk : KdOk P k) (hgd : o.guard = none) (t : TypeId) (x : Operand) (x1 x2 : Option Operand) (ho : o.op = .slice t x x1 x2 none) (ht : P.underlying t = some (.slice k.ty))
    (A : Option Addr) (n cap : Nat) (hx : a.eval x = .slice A n cap) (lo hi : Nat) (h1 : boundIs a x1 0 lo) (h2 : boundIs a x2 n hi) (hlo : lo ≤ hi) (hhi : hi ≤ n) (hn : n ≤ cap)
    (h : wpList P ops Q rest (a.put o.dst (.slice (sliceAddr A cap lo k.K) (hi - lo) (cap - lo))) w) : wpList P ops Q (o :: rest) a w := by
  have hr := run_slice_sl (P := P) hk t ht A n cap x1 x2 lo hi h1 h2 hlo hhi hn w
  refine wpList_plain hgd fun K hK => ?_
  unfold Oper.wp execOp
  simp only [ho, Sem.run_bind, hx, Option.map_none, hr, Result.andThen_ok]
  exact hK _ _ h
end
end Go.Croft

namespace Go.Croft
open Go Go.RowKit

/-! The ends of walks: results that lie in variables. -/
section
variable {P : Program} {fn : Func} {R : Ending → World → Prop} {a : Act} {w : World} {m : Mem} {F : HP}

def aggDesc : TypeDesc → Bool
  | .struct _ | .array _ _ => true
  | _ => false
theorem run_var_agg {T T' : TypeId} {g : Nat} {cs : Array Value} {fr : Nat × Nat} (hg : w.heap[g]? = some (.cells cs T' fr)) (hu : (P.underlying T).map aggDesc = some true) (hi : (P.info? T).map (·.size) = some cs.size) :
    (loadVar T ⟨g, 0, none⟩).run P w = .ok (.agg cs) w := by
  obtain ⟨d, hd, hq⟩ : ∃ d, P.underlying T = some d ∧ aggDesc d = true := by
    cases h : P.underlying T with
    | none => rw [h] at hu; cases hu
    | some d => rw [h] at hu; exact ⟨d, rfl, by simpa using hu⟩
  cases d <;> first | exact run_loadVar_row (P := P) w g T' T cs fr _ hg hd rfl hi | cases hq

theorem ret_cell {t : Tmp} {T T' : TypeId} {g : Nat} {cs : Array Value} {fr : Nat × Nat} (hr : fn.results = #[.cell t T]) (hp : a.tmps.getD t undef = .pointer (some ⟨g, 0, none⟩)) (hg : w.heap[g]? = some (.cells cs T' fr))
    (hu : (P.underlying T).map aggDesc = some true) (hi : (P.info? T).map (·.size) = some cs.size) (hd : a.defers = []) (hR : R (.returned (.agg cs)) w) : bodyPost P fn R .ret a w := by
  refine ⟨hd, .agg cs, ?_, hR⟩
  simp only [Array.getD_eq_getD_getElem?] at hp
  simp [results, hr, hp, asAddr, run_var_agg hg hu hi]
theorem ret_cell_tmp {t u : Tmp} {T T' : TypeId} {g : Nat} {cs : Array Value} {fr : Nat × Nat} {x : Value} (hr : fn.results = #[.cell t T, .tmp u]) (hp : a.tmps.getD t undef = .pointer (some ⟨g, 0, none⟩)) (hx : a.tmps.getD u undef = x) (hg : w.heap[g]? = some (.cells cs T' fr))
    (hu : (P.underlying T).map aggDesc = some true) (hi : (P.info? T).map (·.size) = some cs.size) (hd : a.defers = []) (hR : R (.returned (.tuple #[.agg cs, x])) w) : bodyPost P fn R .ret a w := by
  refine ⟨hd, .tuple #[.agg cs, x], ?_, hR⟩
  simp only [Array.getD_eq_getD_getElem?] at hp hx
  simp [results, hr, hp, hx, asAddr, run_var_agg hg hu hi]
theorem ret_int {k : IntKind} {a b : Int} (h : a = b) : Ending.returned (.int k a) = .returned (.int k b) := by rw [h]
theorem ret_bool {a b : Bool} (h : a = b) : Ending.returned (.bool a) = .returned (.bool b) := by rw [h]
theorem ret_val {a b : Value} (h : a = b) : Ending.returned a = .returned b := by rw [h]
end
end Go.Croft

namespace Go.Croft
open Go Go.RowKit

theorem KdOk.of {α : Type} {P : Program} {k : Kd α} (h : (P.info? k.ty).map (fun i => (i.zero.map (·.cells.size), i.size, i.bytes)) = some (some k.K, k.K, k.bytes)) (hs : k.K ≤ 16777216) : KdOk P k := by
  cases hi : P.info? k.ty with
  | none => rw [hi] at h; cases h
  | some i =>
    rw [hi] at h
    simp only [Option.map_some, Option.some.injEq, Prod.mk.injEq] at h
    obtain ⟨h1, h2, h3⟩ := h
    cases hz : i.zero with
    | none => rw [hz] at h1; cases h1
    | some z => rw [hz] at h1; simp only [Option.map_some, Option.some.injEq] at h1; exact ⟨⟨i, z, hi, hz, h2, h3, h1⟩, hs⟩

/-- int -/
def kInt : Kd Int where
  K := 1
  ty := 3
  bytes := 8
  enc x := [.int .i64 x]
  len _ := rfl
  one := by intro x v h; simp at h; subst h; rfl
  pos := by decide
theorem kInt_ok : KdOk Go.Proofs.Try.prog kInt := .of (by kernel_rfl) (by decide)
end Go.Croft
