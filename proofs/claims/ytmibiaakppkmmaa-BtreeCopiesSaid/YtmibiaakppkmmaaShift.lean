/- An entry is shifted from a kid to the one beside it, through the one between them. -/
import Derived.Test.YtmibiaakppkmmaaJoin
namespace Go.Proofs.Ytmibiaakppkmmaa
open Go.RowKit Go.Sep
set_option linter.unusedVariables false
set_option linter.unusedSimpArgs false

/-- a cell of an owned slice is written -/
theorem row_set {E : Env} {w : World} {A : Asn} {e sz g n cap : Nat} {xs : List Value} (j : Nat) (u : Value) (h : sat E w (row e sz (.slice (some ⟨g, 0, none⟩) n cap) n xs * A)) :
    sat E (w.setCell ⟨g, j, none⟩ u) (row e sz (.slice (some ⟨g, 0, none⟩) n cap) n (xs.set j u) * A) := by
  obtain ⟨hl, ⟨hb, _⟩ | ⟨g', cap', cur, hv, c1, c2, c3, c4, hp⟩⟩ := h.row
  · cases hb
  injection hv with e1 _ e3
  injection e1 with e1
  injection e1 with e1
  subst e1; subst e3
  refine (hp.setCell (off := j) u).mk_row (by rw [List.length_set]; exact hl) c1 c2 (by simpa using c3) ?_
  rw [Array.toList_setIfInBounds, List.take_set, c4]

theorem ents_set (ea eb : List Ent) (m y : Ent) : ((entCells (ea ++ m :: eb)).set (ea.length * 2) y.k).set (ea.length * 2 + 1) (.int .i64 y.id) = entCells (ea ++ y :: eb) := by
  have h : (entCells ea).length = ea.length * 2 := entCells_length ea
  rw [entCells_append, entCells_append, ← h]
  simp [entCells, List.set_append]

/-- an entry of an owned slice is written -/
theorem ents_store {E : Env} {w : World} {A : Asn} {g n cap : Nat} {ea eb : List Ent} {m : Ent} (y : Ent) (hn : (ea ++ m :: eb).length = n) (h : sat E w (ents (.slice (some ⟨g, 0, none⟩) n cap) (ea ++ m :: eb) * A)) :
    sat E ((w.setCell ⟨g, ea.length * 2, none⟩ y.k).setCell ⟨g, ea.length * 2 + 1, none⟩ (.int .i64 y.id)) (ents (.slice (some ⟨g, 0, none⟩) n cap) (ea ++ y :: eb) * A) :=
  row_ents (row_set (ea.length * 2 + 1) (.int .i64 y.id) (row_set (ea.length * 2) y.k (ents_row h hn))) (ents_set ea eb m y) (by simpa using hn.symm)

end Go.Proofs.Ytmibiaakppkmmaa
