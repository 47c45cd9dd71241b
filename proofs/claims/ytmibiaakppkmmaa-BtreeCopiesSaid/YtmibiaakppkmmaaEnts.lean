/- Entries and kids as they lie in owned slices. -/
import Derived.Test.YtmibiaakppkmmaaSlcs2
namespace Go.Proofs.Ytmibiaakppkmmaa
open Go.RowKit Go.Sep
set_option linter.unusedVariables false
set_option linter.unusedSimpArgs false

/-- an entry: where its key lies, the key, the number -/
structure Ent where
  k : Value
  l : List Val
  id : Int

@[reducible] def Ent.val (e : Ent) : Value := .agg #[e.k, .int .i64 e.id]
def Ent.kv (e : Ent) : List Val × Int := (e.l, e.id)

def entCells : List Ent → List Value
  | [] => []
  | e :: es => e.k :: .int .i64 e.id :: entCells es

theorem entCells_length (es : List Ent) : (entCells es).length = es.length * 2 := by
  induction es with
  | nil => rfl
  | cons e es ih => simp [entCells, ih]; omega

theorem entCells_append (a b : List Ent) : entCells (a ++ b) = entCells a ++ entCells b := by
  induction a with
  | nil => rfl
  | cons e a ih => simp [entCells, ih]

theorem entCells_take (es : List Ent) (i : Nat) : (entCells es).take (i * 2) = entCells (es.take i) := by
  induction es generalizing i with
  | nil => simp [entCells]
  | cons e es ih =>
    cases i with
    | zero => simp [entCells]
    | succ i => rw [show (i + 1) * 2 = i * 2 + 1 + 1 by omega]; simp [entCells, ih]

theorem entCells_drop (es : List Ent) (i : Nat) : (entCells es).drop (i * 2) = entCells (es.drop i) := by
  induction es generalizing i with
  | nil => simp [entCells]
  | cons e es ih =>
    cases i with
    | zero => simp [entCells]
    | succ i => rw [show (i + 1) * 2 = i * 2 + 1 + 1 by omega]; simp [entCells, ih]

theorem entCells_get (es : List Ent) (i : Nat) (h : i < es.length) : (entCells es)[i * 2]? = some es[i].k ∧ (entCells es)[i * 2 + 1]? = some (.int .i64 es[i].id) := by
  induction es generalizing i with
  | nil => simp at h
  | cons e es ih =>
    cases i with
    | zero => simp [entCells]
    | succ i =>
      have := ih i (by simpa using h)
      rw [show (i + 1) * 2 = i * 2 + 1 + 1 by omega, show i * 2 + 1 + 1 + 1 = i * 2 + 1 + 1 + 1 from rfl]
      simpa [entCells] using this

def Env.goods (E : Env) (es : List Ent) : Prop := ∀ e ∈ es, E.vals e.k e.l

theorem Env.goods.le {E E' : Env} {es : List Ent} (h : Env.goods E es) (hE : E.le E') : Env.goods E' es := fun e he => (h e he).le hE

theorem vals_one {E : Env} {k : Value} {l : List Val} (h : E.vals k l) : k.oneCell' = true := by
  obtain ⟨a, c, rfl⟩ := h.slice; rfl

theorem entCells_one {E : Env} {es : List Ent} (h : Env.goods E es) : ∀ u ∈ entCells es, u.oneCell' = true := by
  induction es with
  | nil => intro u hu; simp [entCells] at hu
  | cons e es ih =>
    intro u hu
    simp only [entCells, List.mem_cons] at hu
    rcases hu with rfl | rfl | hu
    · exact vals_one (h e (by simp))
    · rfl
    · exact ih (fun x hx => h x (List.mem_cons_of_mem _ hx)) u hu

/-- an owned slice of entries -/
def ents (v : Value) (es : List Ent) : Asn := row 35 2 v es.length (entCells es)

def ptr (p : Nat) : Value := .pointer (some ⟨p, 0, none⟩)

/-- an owned slice of nodes -/
def kids (v : Value) (ps : List Nat) : Asn := row 55 1 v ps.length (ps.map ptr)

theorem ptrs_one (ps : List Nat) : ∀ u ∈ ps.map ptr, u.oneCell' = true := by
  intro u hu
  simp only [List.mem_map] at hu
  obtain ⟨p, _, rfl⟩ := hu
  rfl

/-- an owned slice of entries, as a walk wants it -/
theorem sat.ents {E : Env} {w : World} {A : Asn} {v : Value} {es : List Ent} (h : sat E w (ents v es * A)) :
    (es = [] ∧ v = .slice none 0 0 ∧ sat E w A) ∨ ∃ g cap cur, v = .slice (some ⟨g, 0, none⟩) es.length cap ∧ es.length ≤ cap ∧ cap ≤ maxLen ∧ cap * 2 ≤ cur.size ∧ cur.toList.take (es.length * 2) = entCells es ∧ sat E w (pts g (.cells cur 35 (0, 0)) * A) := by
  obtain ⟨_, ⟨h1, h2, h3⟩ | ⟨g, cap, cur, h⟩⟩ := Go.Sep.sat.row h
  · exact .inl ⟨List.eq_nil_of_length_eq_zero h2, h1, h3⟩
  · exact .inr ⟨g, cap, cur, h⟩

/-- the cells of an entry -/
theorem ent_cell {w : World} {g : Nat} {cur : Array Value} {es : List Ent} (hb : w.heap[g]? = some (.cells cur 35 (0, 0))) (h4 : cur.toList.take (es.length * 2) = entCells es) (i : Nat) (hi : i < es.length) :
    g < w.heap.size ∧ w.cell? ⟨g, i * 2, none⟩ = some es[i].k ∧ w.cell? ⟨g, i * 2 + 1, none⟩ = some (.int .i64 es[i].id) ∧ w.frozen? ⟨g, i * 2, none⟩ = false ∧ w.frozen? ⟨g, i * 2 + 1, none⟩ = false :=
  have hc := entCells_get es i hi
  ⟨(Array.getElem?_eq_some_iff.1 hb).1, row_cell hb h4 _ _ hc.1, row_cell hb h4 _ _ hc.2, frozen_of_block hb, frozen_of_block hb⟩

/-- the cell of a kid -/
theorem kid_cell {w : World} {g : Nat} {cur : Array Value} {ps : List Nat} (hb : w.heap[g]? = some (.cells cur 55 (0, 0))) (h4 : cur.toList.take (ps.length * 1) = ps.map ptr) (i : Nat) (hi : i < ps.length) :
    w.cell? ⟨g, i, none⟩ = some (ptr ps[i]) :=
  row_cell hb h4 _ _ (by simp [hi])

/-- the place of a key among some: how many stand ahead -/
def pos (c : List Int) : Nat := (c.takeWhile (· < 0)).length

theorem pos_le (c : List Int) : pos c ≤ c.length := by
  unfold pos
  exact (List.takeWhile_sublist _).length_le

theorem pos_eq (c : List Int) (i : Nat) (hi : i ≤ c.length) (h1 : ∀ j, j < i → ∀ x, c[j]? = some x → x < 0) (h2 : ∀ x, c[i]? = some x → ¬ x < 0) : pos c = i := by
  induction c generalizing i with
  | nil => simp at hi; subst hi; rfl
  | cons a c ih =>
    cases i with
    | zero =>
      have := h2 a (by simp)
      simp [pos, List.takeWhile, this]
    | succ i =>
      have ha := h1 0 (by omega) a (by simp)
      have := ih i (by simpa using hi) (fun j hj x hx => h1 (j + 1) (by omega) x (by simpa using hx)) (fun x hx => h2 x (by simpa using hx))
      simp only [pos] at this ⊢
      simp [List.takeWhile, ha, this]

/-- who stands ahead stands first -/
def rises (c : List Int) : Prop := ∀ (i j : Nat) (x y : Int), i ≤ j → c[i]? = some x → c[j]? = some y → y < 0 → x < 0

def found (c : List Int) : Bool := c[pos c]? == some 0

end Go.Proofs.Ytmibiaakppkmmaa
