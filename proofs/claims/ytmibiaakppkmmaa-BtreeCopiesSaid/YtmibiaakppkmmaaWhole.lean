/- All of a world as a frame: whoever keeps it keeps the world. -/
import Derived.Test.YtmibiaakppkmmaaDet
namespace Go.Sep
open Go.RowKit
set_option linter.unusedVariables false
set_option linter.unusedSimpArgs false

/-- all of a world that is not only read: what is owned, and the rest; whoever keeps both, and adds to what is read, keeps all -/
theorem sat.whole {E : Env} {W : World} {A : Asn} (hs : sat E W A) : ∃ h hr, A h ∧ sat E W (Sep.exact h * Sep.exact hr) ∧ (∀ k o, W.heap[k]? = some o → E.ro k = some o ∨ h k = some o ∨ hr k = some o) ∧
    ∀ E2 W', E.le E2 → sat E2 W' (Sep.exact h * Sep.exact hr) → W.grownBy W' none := by
  obtain ⟨h, a, hx⟩ := hs.own
  have hcov : ∀ k o, W.heap[k]? = some o → E.ro k = some o ∨ h k = some o ∨ (if E.ro k = none ∧ h k = none then W.heap[k]? else none) = some o := by
    intro k o hk
    cases e1 : E.ro k with
    | some o1 => have := hs.ro k o1 e1; rw [hk] at this; cases this; exact .inl rfl
    | none =>
      cases e2 : h k with
      | some o2 => have := (hx k o2 e2).1; rw [hk] at this; cases this; exact .inr (.inl rfl)
      | none => right; right; simp [hk]
  refine ⟨h, fun k => if E.ro k = none ∧ h k = none then W.heap[k]? else none, a, ⟨hs.ro, hs.os, hs.tape, hs.output, fun k => (h k).or (if E.ro k = none ∧ h k = none then W.heap[k]? else none), ⟨h, _, fun k => ?_, fun k => rfl, rfl, rfl⟩, fun k o e => ?_⟩, hcov, ?_⟩
  · cases e : h k with
    | none => exact .inl rfl
    | some o => right; simp [e]
  · simp only at e
    cases e2 : h k with
    | some o2 => rw [e2] at e; simp at e; subst e; exact hx k _ e2
    | none =>
      rw [e2] at e
      simp at e
      exact ⟨e.2, e.1⟩
  · intro E2 W' hE hs2
    obtain ⟨x, ⟨h1, h2, hd, hu, e1, e2⟩, hx2⟩ := hs2.own
    cases e1
    cases e2
    have keep : ∀ (k : Nat) (o : Obj), W.heap[k]? = some o → W'.heap[k]? = some o := by
      intro k o hk
      rcases hcov k o hk with e | e | e
      · exact hs2.ro k o (hE.ro k o e)
      · exact (hx2 k o (by rw [hu k, e]; rfl)).1
      · refine (hx2 k o ?_).1
        rw [hu k]
        rcases hd k with n | n
        · rw [n]; simpa using e
        · simp only at n; rw [e] at n; cases n
    refine ⟨hs2.os.trans (hE.os.trans hs.os.symm), hs2.tape.trans (hE.tape.trans hs.tape.symm), hs2.output.trans (hE.output.trans hs.output.symm), ?_, fun k hk _ => ?_⟩
    · by_cases h0 : W.heap.size = 0
      · omega
      · have := keep (W.heap.size - 1) W.heap[W.heap.size - 1] (by simp)
        have := (Array.getElem?_eq_some_iff.1 this).1
        omega
    · have e : W.heap[k]? = some W.heap[k] := by simp [hk]
      rw [e]
      exact keep k _ e

/-- the whole world as a frame -/
theorem sat.frame {E : Env} {W : World} {A : Asn} (hs : sat E W A) : ∃ F, sat E W F ∧ Calm W.heap.size F ∧ (∀ x, F x → (A * ex fun h => Sep.exact h) x) ∧ ∀ E2 W', E.le E2 → sat E2 W' F → W.grownBy W' none := by
  obtain ⟨h, hr, a, hs2, _, hw⟩ := hs.whole
  refine ⟨Sep.exact h * Sep.exact hr, hs2, ?_, ?_, hw⟩
  · obtain ⟨x, hx0, hx⟩ := hs2.own
    intro y hy k o e
    have : x = y := by
      obtain ⟨h1, h2, _, hu, e1, e2⟩ := hx0
      obtain ⟨h3, h4, _, hu', e3, e4⟩ := hy
      cases e1; cases e2; cases e3; cases e4
      funext k
      rw [hu k, hu' k]
    subst this
    exact .inl (Array.getElem?_eq_some_iff.1 (hx k o e).1).1
  · intro x hx
    exact sep_mono (fun y e => by cases e; exact a) (fun y e => ⟨_, e⟩) x hx

/-- the whole world as a frame, and what of it is no part of A: who keeps that keeps whatever is no cells -/
theorem sat.frame2 {E : Env} {W : World} {A : Asn} (hs : sat E W A) : ∃ F hr, sat E W F ∧ (∀ x, F x → (A * Sep.exact hr) x) ∧ (∀ E2 W', E.le E2 → sat E2 W' F → W.grownBy W' none) ∧
    ∀ B, Calm B A → E.calm B → ∀ E2 W' A', sat E2 W' (Sep.exact hr * A') → ∀ (k : Nat) (o : Obj), B ≤ k → W.heap[k]? = some o → o.isCells = false → W'.heap[k]? = some o := by
  obtain ⟨h, hr, a, hs2, hcov, hw⟩ := hs.whole
  refine ⟨Sep.exact h * Sep.exact hr, hr, hs2, fun x hx => sep_mono (fun y e => by cases e; exact a) (fun y e => e) x hx, hw, ?_⟩
  intro B hc he E2 W' A' hs3 k o hB hk ho
  have hrk : hr k = some o := by
    rcases hcov k o hk with e | e | e
    · rcases he k o e with h1 | h1
      · omega
      · rw [ho] at h1; cases h1
    · rcases hc h a k o e with h1 | h1
      · omega
      · rw [ho] at h1; cases h1
    · exact e
  obtain ⟨x, ⟨h1, h2, hd, hu, e1, _⟩, hx⟩ := hs3.own
  cases e1
  exact (hx k o (by rw [hu k, hrk]; rfl)).1

end Go.Sep
