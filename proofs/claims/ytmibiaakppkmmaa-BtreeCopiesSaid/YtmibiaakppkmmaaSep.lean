/- A small separation logic over the model's heap: assertions on blocks, what a world must hold for them, and how each step of a walk turns them. -/
import Derived.WalkKit
import Derived.Below
namespace Go.Sep
set_option linter.unusedVariables false
set_option linter.unusedSimpArgs false
open Go.RowKit

/-- a part of the heap: which blocks it has, and what lies in them -/
abbrev Hp := Nat → Option Obj

/-- a saying of a part of the heap -/
def Asn := Hp → Prop

def Asn.emp : Asn := fun h => ∀ k, h k = none
def pts (b : Nat) (o : Obj) : Asn := fun h => ∀ k, h k = if k = b then some o else none
def Asn.sep (A B : Asn) : Asn := fun h => ∃ h1 h2 : Hp, (∀ k, h1 k = none ∨ h2 k = none) ∧ (∀ k, h k = (h1 k).or (h2 k)) ∧ A h1 ∧ B h2
def ex {α : Sort _} (f : α → Asn) : Asn := fun h => ∃ x, f x h
def pur (p : Prop) : Asn := fun h => p ∧ ∀ k, h k = none

instance : Mul Asn := ⟨Asn.sep⟩
instance : One Asn := ⟨Asn.emp⟩

theorem mul_def (A B : Asn) : A * B = Asn.sep A B := rfl

theorem Asn.ext {A B : Asn} (h : ∀ x, A x ↔ B x) : A = B := funext fun x => propext (h x)

theorem sep_comm (A B : Asn) : A * B = B * A := by
  apply Asn.ext
  intro h
  constructor <;>
  · rintro ⟨h1, h2, hd, hu, a, b⟩
    refine ⟨h2, h1, fun k => (hd k).symm, fun k => ?_, b, a⟩
    rw [hu k]
    rcases hd k with e | e <;> simp [e]

theorem sep_assoc (A B C : Asn) : A * B * C = A * (B * C) := by
  apply Asn.ext
  intro h
  constructor
  · rintro ⟨h12, h3, hd, hu, ⟨h1, h2, hd', hu', a, b⟩, c⟩
    have key : ∀ k, (h1 k = none ∨ h2 k = none) ∧ (h1 k = none ∨ h3 k = none) ∧ (h2 k = none ∨ h3 k = none) := by
      intro k
      have e := hu' k
      have d := hd k
      have d' := hd' k
      cases x1 : h1 k <;> cases x2 : h2 k <;> cases x3 : h3 k <;> simp_all
    refine ⟨h1, fun k => (h2 k).or (h3 k), fun k => ?_, fun k => ?_, a, h2, h3, fun k => (key k).2.2, fun _ => rfl, b, c⟩
    · obtain ⟨p, q, r⟩ := key k
      cases x1 : h1 k <;> simp_all
    · rw [hu k, hu' k]
      cases h1 k <;> simp
  · rintro ⟨h1, h23, hd, hu, a, h2, h3, hd', hu', b, c⟩
    have key : ∀ k, (h1 k = none ∨ h2 k = none) ∧ (h1 k = none ∨ h3 k = none) ∧ (h2 k = none ∨ h3 k = none) := by
      intro k
      have e := hu' k
      have d := hd k
      have d' := hd' k
      cases x1 : h1 k <;> cases x2 : h2 k <;> cases x3 : h3 k <;> simp_all
    refine ⟨fun k => (h1 k).or (h2 k), h3, fun k => ?_, fun k => ?_, ⟨h1, h2, fun k => (key k).1, fun _ => rfl, a, b⟩, c⟩
    · obtain ⟨p, q, r⟩ := key k
      cases x3 : h3 k <;> simp_all
    · rw [hu k, hu' k, Option.or_assoc]

theorem one_sep (A : Asn) : 1 * A = A := by
  apply Asn.ext
  intro h
  constructor
  · rintro ⟨h1, h2, _, hu, e, a⟩
    have : h = h2 := funext fun k => by rw [hu k, e k]; simp
    rw [this]; exact a
  · intro a
    exact ⟨fun _ => none, h, fun _ => .inl rfl, fun _ => by simp, fun _ => rfl, a⟩

theorem sep_one (A : Asn) : A * 1 = A := by rw [sep_comm, one_sep]

instance : Std.Associative (α := Asn) (· * ·) := ⟨sep_assoc⟩
instance : Std.Commutative (α := Asn) (· * ·) := ⟨sep_comm⟩
instance : Std.LawfulIdentity (α := Asn) (· * ·) 1 where
  left_id := one_sep
  right_id := sep_one

theorem sep_left_comm (A B C : Asn) : A * (B * C) = B * (A * C) := by rw [← sep_assoc, sep_comm A B, sep_assoc]

theorem pur_sep (p : Prop) (A : Asn) (h : Hp) : (pur p * A) h ↔ p ∧ A h := by
  constructor
  · rintro ⟨h1, h2, _, hu, ⟨hp, e⟩, a⟩
    have : h = h2 := funext fun k => by rw [hu k, e k]; simp
    rw [this]; exact ⟨hp, a⟩
  · rintro ⟨hp, a⟩
    exact ⟨fun _ => none, h, fun _ => .inl rfl, fun _ => by simp, ⟨hp, fun _ => rfl⟩, a⟩

theorem ex_sep {α : Sort _} (f : α → Asn) (A : Asn) : ex f * A = ex fun x => f x * A := by
  apply Asn.ext
  intro h
  constructor
  · rintro ⟨h1, h2, hd, hu, ⟨x, fx⟩, a⟩; exact ⟨x, h1, h2, hd, hu, fx, a⟩
  · rintro ⟨x, h1, h2, hd, hu, fx, a⟩; exact ⟨h1, h2, hd, hu, ⟨x, fx⟩, a⟩

theorem sep_mono {A A' B B' : Asn} (ha : ∀ h, A h → A' h) (hb : ∀ h, B h → B' h) (h : Hp) (x : (A * B) h) : (A' * B') h := by
  obtain ⟨h1, h2, hd, hu, a, b⟩ := x
  exact ⟨h1, h2, hd, hu, ha _ a, hb _ b⟩

/-- what stays for all of a call: what may be read and is not written, the streams -/
structure Env where
  ro : Nat → Option Obj
  os : Os
  tape : Nat → Question → Nat
  output : Array (Nat × ByteArray)

/-- more may be read -/
structure Env.le (E E' : Env) : Prop where
  ro : ∀ k o, E.ro k = some o → E'.ro k = some o
  os : E'.os = E.os
  tape : E'.tape = E.tape
  output : E'.output = E.output

theorem Env.le.refl (E : Env) : E.le E := ⟨fun _ _ h => h, rfl, rfl, rfl⟩
theorem Env.le.trans {E E' E'' : Env} (h : E.le E') (h' : E'.le E'') : E.le E'' :=
  ⟨fun k o x => h'.ro k o (h.ro k o x), h'.os.trans h.os, h'.tape.trans h.tape, h'.output.trans h.output⟩

def Env.add (E : Env) (b : Nat) (o : Obj) : Env := { E with ro := fun k => if k = b then some o else E.ro k }

/-- a world holds what is read, and, apart from it, what is owned -/
structure sat (E : Env) (w : World) (A : Asn) : Prop where
  ro : ∀ k o, E.ro k = some o → w.heap[k]? = some o
  os : w.os = E.os
  tape : w.tape = E.tape
  output : w.output = E.output
  own : ∃ h : Hp, A h ∧ (∀ k o, h k = some o → w.heap[k]? = some o ∧ E.ro k = none)

section
variable {E : Env} {w w' : World} {A B : Asn}

theorem sat.mono (h : sat E w A) (hab : ∀ x, A x → B x) : sat E w B := by
  obtain ⟨x, a, hx⟩ := h.own
  exact ⟨h.ro, h.os, h.tape, h.output, x, hab x a, hx⟩

theorem sat.to (h : sat E w A) (e : A = B) : sat E w B := e ▸ h

/-- what is owned may be let go -/
theorem sat.drop (h : sat E w (A * B)) : sat E w B := by
  obtain ⟨x, ⟨h1, h2, hd, hu, a, b⟩, hx⟩ := h.own
  refine ⟨h.ro, h.os, h.tape, h.output, h2, b, fun k o e => hx k o ?_⟩
  rcases hd k with n | n
  · rw [hu k, n, e]; rfl
  · rw [n] at e; cases e

theorem sat.keep (h : sat E w (A * B)) : sat E w A := (h.to (sep_comm A B)).drop

theorem sat_pur {p : Prop} : sat E w (pur p * A) ↔ p ∧ sat E w A := by
  constructor
  · intro h
    obtain ⟨x, a, hx⟩ := h.own
    obtain ⟨hp, a⟩ := (pur_sep p A x).1 a
    exact ⟨hp, h.ro, h.os, h.tape, h.output, x, a, hx⟩
  · rintro ⟨hp, h⟩
    exact h.mono fun x a => (pur_sep p A x).2 ⟨hp, a⟩

theorem sat_ex {α : Sort _} {f : α → Asn} : sat E w (ex f) ↔ ∃ x, sat E w (f x) := by
  constructor
  · intro h
    obtain ⟨x, ⟨y, a⟩, hx⟩ := h.own
    exact ⟨y, h.ro, h.os, h.tape, h.output, x, a, hx⟩
  · rintro ⟨y, h⟩
    exact h.mono fun x a => ⟨y, a⟩

theorem sat_ex_sep {α : Sort _} {f : α → Asn} : sat E w (ex f * A) ↔ ∃ x, sat E w (f x * A) := by rw [ex_sep]; exact sat_ex

/-- what lies in an owned block -/
theorem sat.block {b : Nat} {o : Obj} (h : sat E w (pts b o * A)) : w.heap[b]? = some o := by
  obtain ⟨x, ⟨h1, h2, hd, hu, a, _⟩, hx⟩ := h.own
  exact (hx b o (by rw [hu b, a b]; simp)).1

theorem sat.not_ro {b : Nat} {o : Obj} (h : sat E w (pts b o * A)) : E.ro b = none := by
  obtain ⟨x, ⟨h1, h2, hd, hu, a, _⟩, hx⟩ := h.own
  exact (hx b o (by rw [hu b, a b]; simp)).2

theorem sat.lt {b : Nat} {o : Obj} (h : sat E w (pts b o * A)) : b < w.heap.size := (Array.getElem?_eq_some_iff.1 h.block).1

theorem sat.ne {b c : Nat} {o p : Obj} (h : sat E w (pts b o * (pts c p * A))) : b ≠ c := by
  rintro rfl
  obtain ⟨x, ⟨h1, h2, hd, _, a, ⟨h3, h4, _, hu', a', _⟩⟩, _⟩ := h.own
  have e1 := a b
  have e2 := hu' b
  rw [a' b] at e2
  rcases hd b with n | n <;> simp_all

/-- a step that turns one owned block, and adds others -/
theorem sat.turn {b : Nat} {o o' : Obj} (h : sat E w (pts b o * A)) (hb : w'.heap[b]? = some o')
    (hk : ∀ k, k ≠ b → k < w.heap.size → w'.heap[k]? = w.heap[k]?) (hos : w'.os = w.os) (ht : w'.tape = w.tape) (hout : w'.output = w.output) : sat E w' (pts b o' * A) := by
  obtain ⟨x, ⟨h1, h2, hd, hu, a, a2⟩, hx⟩ := h.own
  have hn := h.not_ro
  have low : ∀ k o, w.heap[k]? = some o → k < w.heap.size := fun k o e => (Array.getElem?_eq_some_iff.1 e).1
  refine ⟨fun k p e => ?_, hos.trans h.os, ht.trans h.tape, hout.trans h.output, fun k => if k = b then some o' else h2 k, ⟨fun k => if k = b then some o' else none, h2, fun k => ?_, fun k => ?_, fun k => rfl, a2⟩, fun k p e => ?_⟩
  · have hne : k ≠ b := by rintro rfl; rw [hn] at e; cases e
    have := h.ro k p e
    rw [hk k hne (low _ _ this)]; exact this
  · by_cases e : k = b
    · subst e
      rcases hd k with n | n
      · rw [a k] at n; simp at n
      · exact .inr n
    · left; simp [e]
  · by_cases e : k = b <;> simp [e]
  · by_cases hkb : k = b
    · subst hkb
      simp only [if_true, Option.some.injEq] at e
      subst e
      exact ⟨hb, hn⟩
    · simp only [hkb, if_false] at e
      have := hx k p (by rw [hu k, a k]; simp [hkb, e])
      rw [hk k hkb (low _ _ this.1)]; exact this

/-- a step that turns no block, and may add some -/
theorem sat.more (h : sat E w A) (hk : ∀ k, k < w.heap.size → w'.heap[k]? = w.heap[k]?) (hos : w'.os = w.os) (ht : w'.tape = w.tape) (hout : w'.output = w.output) : sat E w' A := by
  obtain ⟨x, a, hx⟩ := h.own
  have low : ∀ k o, w.heap[k]? = some o → k < w.heap.size := fun k o e => (Array.getElem?_eq_some_iff.1 e).1
  refine ⟨fun k p e => ?_, hos.trans h.os, ht.trans h.tape, hout.trans h.output, x, a, fun k p e => ?_⟩
  · have := h.ro k p e
    rw [hk k (low _ _ this)]; exact this
  · have := hx k p e
    rw [hk k (low _ _ this.1)]; exact this

theorem sat.below (h : sat E w A) (hb : Below w.heap.size w w') : sat E w' A := h.more hb.block hb.os hb.tape hb.output

theorem sat.drew (h : sat E w A) : sat E w.drew A := h.more (fun _ _ => rfl) rfl rfl rfl

/-- a new block, owned -/
theorem sat.alloc (h : sat E w A) (o : Obj) : sat E (w.alloc o) (pts w.heap.size o * A) := by
  obtain ⟨x, a, hx⟩ := h.own
  have low : ∀ k o, w.heap[k]? = some o → k < w.heap.size := fun k o e => (Array.getElem?_eq_some_iff.1 e).1
  have hnew : E.ro w.heap.size = none := by
    cases e : E.ro w.heap.size with
    | none => rfl
    | some p => have := low _ _ (h.ro _ _ e); omega
  refine ⟨fun k p e => ?_, h.os, h.tape, h.output, fun k => if k = w.heap.size then some o else x k, ⟨fun k => if k = w.heap.size then some o else none, x, fun k => ?_, fun k => ?_, fun k => rfl, a⟩, fun k p e => ?_⟩
  · have := h.ro k p e
    rw [Below.heap_alloc _ _ _ (low _ _ this)]; exact this
  · by_cases e : k = w.heap.size
    · right
      cases e' : x k with
      | none => rfl
      | some p => have := low _ _ (hx _ _ e').1; omega
    · left; simp [e]
  · by_cases e : k = w.heap.size <;> simp [e]
  · by_cases hk : k = w.heap.size
    · subst hk
      simp only [if_true, Option.some.injEq] at e
      subst e
      exact ⟨heap_alloc_new w _, hnew⟩
    · simp only [hk, if_false] at e
      have := hx k p e
      rw [Below.heap_alloc _ _ _ (low _ _ this.1)]; exact this

/-- a new block, not owned -/
theorem sat.alloc' (h : sat E w A) (o : Obj) : sat E (w.alloc o) A := (h.alloc o).drop

/-- a store into an owned block -/
theorem sat.setCell {b off : Nat} {c : Array Value} {t : TypeId} {fz : Nat × Nat} (v : Value) (h : sat E w (pts b (.cells c t fz) * A)) :
    sat E (w.setCell ⟨b, off, none⟩ v) (pts b (.cells (c.setIfInBounds off v) t fz) * A) := by
  refine h.turn (o' := .cells (c.setIfInBounds off v) t fz) ?_ (fun k hk _ => Below.heap_setCell _ _ _ _ (by simpa using hk)) rfl rfl rfl
  have := h.block
  simp [World.setCell, Array.getElem?_modify, this]

/-- from now on a block is not written: it may be read by whoever has its place -/
theorem sat.freeze {b : Nat} {o : Obj} (h : sat E w (pts b o * A)) : sat (E.add b o) w A := by
  obtain ⟨x, ⟨h1, h2, hd, hu, a, a2⟩, hx⟩ := h.own
  refine ⟨fun k p e => ?_, h.os, h.tape, h.output, h2, a2, fun k p e => ?_⟩
  · simp only [Env.add] at e
    by_cases hk : k = b
    · subst hk; simp at e; subst e; exact h.block
    · simp [hk] at e; exact h.ro k p e
  · have hne : k ≠ b := by
      rintro rfl
      rcases hd k with n | n
      · rw [a k] at n; simp at n
      · rw [n] at e; cases e
    have := hx k p (by rw [hu k, a k]; simp [hne, e])
    exact ⟨this.1, by simp [Env.add, hne, this.2]⟩

/-- what is read may be forgotten -/
theorem sat.le {E' : Env} (h : sat E' w A) (hE : E.le E') : sat E w A := by
  obtain ⟨x, a, hx⟩ := h.own
  refine ⟨fun k o e => h.ro k o (hE.ro k o e), h.os.trans hE.os, h.tape.trans hE.tape, h.output.trans hE.output, x, a, fun k o e => ⟨(hx k o e).1, ?_⟩⟩
  cases e' : E.ro k with
  | none => rfl
  | some p => have := hE.ro k p e'; rw [(hx k o e).2] at this; cases this

theorem Env.le_add {b : Nat} (o : Obj) (h : E.ro b = none) : E.le (E.add b o) :=
  ⟨fun k p e => by
    have : k ≠ b := by rintro rfl; rw [h] at e; cases e
    simpa [Env.add, this] using e, rfl, rfl, rfl⟩

end

/-- a call comes back with a value of which this is so -/
def Ret (p : Value → World → Prop) : Ending → World → Prop := fun e w => ∃ v, e = .returned v ∧ p v w

/-- the walk is not to look at what is to be shown: it stands behind a name -/
theorem ret_hide {P : Program} {f : FuncId} {args : Array Value} {w : World} {p : Value → World → Prop} (h : ∀ R : Ending → World → Prop, Hid (∀ v w', p v w' → R (.returned v) w') → Calls P f args w R) : Calls P f args w (Ret p) :=
  h _ fun v _ hp => ⟨v, rfl, hp⟩

/-! What a walk asks of a world: cells. -/
theorem cell_of_block {w : World} {b off : Nat} {c : Array Value} {t : TypeId} {fz : Nat × Nat} (h : w.heap[b]? = some (.cells c t fz)) : w.cell? ⟨b, off, none⟩ = c[off]? := by
  simp [World.cell?, h]

theorem frozen_of_block {w : World} {b off : Nat} {c : Array Value} {t : TypeId} (h : w.heap[b]? = some (.cells c t (0, 0))) : w.frozen? ⟨b, off, none⟩ = false := by
  simp [World.frozen?, h]

end Go.Sep
