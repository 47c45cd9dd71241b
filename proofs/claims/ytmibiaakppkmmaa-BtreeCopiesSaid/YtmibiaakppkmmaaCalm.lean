/- What is owned, and read, abides the turns of blocks that a range over a function lays for itself. -/
import Derived.Test.YtmibiaakppkmmaaDrawIn
namespace Go.Sep
open Go.RowKit
set_option linter.unusedVariables false
set_option linter.unusedSimpArgs false

/-- what is owned lies below B, or is cells -/
def Calm (B : Nat) (A : Asn) : Prop := ∀ h, A h → ∀ k o, h k = some o → k < B ∨ o.isCells = true
/-- what is read lies below B, or is cells -/
def Env.calm (B : Nat) (E : Env) : Prop := ∀ k o, E.ro k = some o → k < B ∨ o.isCells = true

theorem Calm.pts {B b : Nat} {c : Array Value} {t : TypeId} {fz : Nat × Nat} : Calm B (pts b (.cells c t fz)) := fun h hp k o e => by
  rw [hp k] at e
  split at e
  · cases e; exact .inr rfl
  · cases e
theorem Calm.sep {B : Nat} {A A' : Asn} (h : Calm B A) (h' : Calm B A') : Calm B (A * A') := by
  rintro x ⟨h1, h2, hd, hu, a, b⟩ k o e
  rw [hu k] at e
  cases e1 : h1 k with
  | some o1 =>
    rw [e1] at e
    injection e with e
    subst e
    exact h _ a k _ e1
  | none => rw [e1] at e; exact h' _ b k o (by simpa using e)
theorem Calm.row {B e sz n : Nat} {v : Value} {xs : List Value} : Calm B (Sep.row e sz v n xs) := by
  rintro h ⟨_, ⟨_, _, hn⟩ | ⟨g, cap, cur, _, _, _, _, _, hp⟩⟩ k o he
  · rw [hn k] at he; cases he
  · exact Calm.pts h hp k o he

/-- just this part of the heap -/
def exact (h : Hp) : Asn := fun x => x = h

theorem sat.exact {E : Env} {w : World} {A : Asn} (hs : sat E w A) : ∃ h, A h ∧ sat E w (exact h) ∧ Calm w.heap.size (Sep.exact h) := by
  obtain ⟨h, a, hx⟩ := hs.own
  refine ⟨h, a, ⟨hs.ro, hs.os, hs.tape, hs.output, h, rfl, hx⟩, ?_⟩
  rintro x rfl k o e
  exact .inl (Array.getElem?_eq_some_iff.1 (hx k o e).1).1

theorem exact_mono {E : Env} {w : World} {A B : Asn} {h : Hp} (a : A h) (hs : sat E w (exact h * B)) : sat E w (A * B) := hs.mono (sep_mono (fun x e => by cases e; exact a) fun _ h => h)

theorem sat.calm_env {E : Env} {w : World} {A : Asn} (hs : sat E w A) : E.calm w.heap.size := fun k o e => .inl (Array.getElem?_eq_some_iff.1 (hs.ro k o e)).1

theorem Calm.mono {B B' : Nat} {A : Asn} (h : Calm B A) (hB : B ≤ B') : Calm B' A := fun x a k o e => (h x a k o e).imp (fun h => by omega) id
theorem Env.calm.mono {B B' : Nat} {E : Env} (h : E.calm B) (hB : B ≤ B') : E.calm B' := fun k o e => (h k o e).imp (fun h => by omega) id

/-- a turn of a block that is no cells -/
theorem sat.turned {B : Nat} {E : Env} {W W' : World} {A : Asn} (hs : sat E W A) (hc : Calm B A) (he : E.calm B) {row : Option Nat} (hg : W.grownBy W' row) (hr : ∀ r, row = some r → B ≤ r ∧ ∃ o : Obj, W.heap[r]? = some o ∧ o.isCells = false) : sat E W' A := by
  obtain ⟨h, a, hx⟩ := hs.own
  have keep : ∀ k o, W.heap[k]? = some o → (k < B ∨ o.isCells = true) → W'.heap[k]? = some o := by
    intro k o hk hc
    refine (hg.block k (Array.getElem?_eq_some_iff.1 hk).1 (fun e => ?_)).trans hk
    obtain ⟨h1, o', h2, h3⟩ := hr k e.symm
    rw [hk] at h2
    cases h2
    rcases hc with hc | hc
    · omega
    · rw [h3] at hc; cases hc
  exact ⟨fun k o e => keep k o (hs.ro k o e) (he k o e), hg.os.trans hs.os, hg.tape.trans hs.tape, hg.output.trans hs.output, h, a, fun k o e => ⟨keep k o (hx k o e).1 (hc h a k o e), (hx k o e).2⟩⟩

/-- what is read, but for what is no cells -/
def Env.trim (E : Env) (B : Nat) : Env := { E with ro := fun k => match E.ro k with | some o => if k < B ∨ o.isCells = true then some o else none | none => none }

theorem Env.trim_ro {E : Env} {B k : Nat} {o : Obj} : (E.trim B).ro k = some o ↔ E.ro k = some o ∧ (k < B ∨ o.isCells = true) := by
  simp only [Env.trim]
  cases h : E.ro k with
  | none => simp
  | some o' =>
    simp only
    split
    · rename_i hc; constructor
      · intro e; cases e; exact ⟨rfl, hc⟩
      · rintro ⟨e, _⟩; exact e
    · rename_i hc; constructor
      · intro e; cases e
      · rintro ⟨e, hc'⟩; cases e; exact absurd hc' hc

theorem Env.trim_calm (E : Env) (B : Nat) : (E.trim B).calm B := fun k o e => (Env.trim_ro.1 e).2
theorem Env.trim_le (E : Env) (B : Nat) : (E.trim B).le E := ⟨fun k o e => (Env.trim_ro.1 e).1, rfl, rfl, rfl⟩
theorem Env.le.trim {E E' : Env} {B : Nat} (h : E.le E') (hc : E.calm B) : E.le (E'.trim B) := ⟨fun k o e => Env.trim_ro.2 ⟨h.ro k o e, hc k o e⟩, h.os, h.tape, h.output⟩
theorem Env.trim_cell {E : Env} {B b off : Nat} {v : Value} (h : E.cell? b off = some v) : (E.trim B).cell? b off = some v := by
  unfold Env.cell? at h
  split at h
  · rename_i c t fz e
    unfold Env.cell?
    rw [Env.trim_ro.2 ⟨e, .inr rfl⟩]; exact h
  · cases h
theorem Env.vals.trim {E : Env} {B : Nat} {v : Value} {l : List Val} (h : E.vals v l) : (E.trim B).vals v l := by
  obtain ⟨hn, a, b, off, cap, hv, ha, hc⟩ := h
  exact ⟨hn, a, b, off, cap, hv, ha, fun i hi => ⟨Env.trim_cell (hc i hi).1, Env.trim_cell (hc i hi).2.1, Env.trim_cell (hc i hi).2.2.1, Env.trim_cell (hc i hi).2.2.2⟩⟩

end Go.Sep
