/- Steps as they lie in owned slices; two trees at once; what is put in whatever row. -/
import Derived.Test.YtmibiaakppkmmaaTreeDel
import Derived.Test.YtmibiaakppkmmaaParts
namespace Go.Proofs.Ytmibiaakppkmmaa
open Go.RowKit Go.Sep
set_option linter.unusedVariables false
set_option linter.unusedSimpArgs false

def zStp : Value := .agg #[.int .u8 0, .slice none 0 0, .slice none 0 0, .int .i64 0]
theorem elStp : ∃ i, Elem Try.prog 22 40 i zStp 4 64 := el_of Try.underlying22 (by kernel_rfl) rfl (by decide)

def Stp.cs (s : Stp) : List Value := [.int .u8 s.kind, s.k, s.k2, .int .i64 s.id]
def stpCells (l : List Stp) : List Value := l.flatMap Stp.cs

theorem stpCells_length (l : List Stp) : (stpCells l).length = l.length * 4 := by
  induction l with
  | nil => rfl
  | cons s l ih => simp only [stpCells, List.flatMap_cons, List.length_append, List.length_cons] at ih ⊢; rw [ih]; simp [Stp.cs]; omega

theorem stpCells_append (a b : List Stp) : stpCells (a ++ b) = stpCells a ++ stpCells b := by simp [stpCells]

theorem stpCells_get (l : List Stp) (i : Nat) (h : i < l.length) : (stpCells l)[i * 4]? = some (.int .u8 l[i].kind) ∧ (stpCells l)[i * 4 + 1]? = some l[i].k ∧ (stpCells l)[i * 4 + 2]? = some l[i].k2 ∧ (stpCells l)[i * 4 + 3]? = some (.int .i64 l[i].id) := by
  induction l generalizing i with
  | nil => simp at h
  | cons s l ih =>
    cases i with
    | zero => simp [stpCells, Stp.cs]
    | succ i =>
      have := ih i (by simpa using h)
      rw [show (i + 1) * 4 = i * 4 + 1 + 1 + 1 + 1 by omega]
      simpa [stpCells, Stp.cs] using this

theorem stp_ok_one {E : Env} {s : Stp} (h : s.ok E) : ∀ u ∈ s.cs, u.oneCell' = true := by
  intro u hu
  simp only [Stp.cs, List.mem_cons, List.not_mem_nil, or_false] at hu
  rcases hu with rfl | rfl | rfl | rfl
  · rfl
  · exact vals_one h.1
  · exact vals_one h.2
  · rfl

/-- an owned slice of steps -/
def stps (v : Value) (l : List Stp) : Asn := row 40 4 v l.length (stpCells l)

theorem stps_slice {E : Env} {w : World} {A : Asn} {v : Value} {l : List Stp} (h : sat E w (stps v l * A)) : ∃ a c, v = .slice a l.length c := by
  obtain ⟨_, ⟨rfl, h2, _⟩ | ⟨g, cap, cur, rfl, _⟩⟩ := Go.Sep.sat.row h
  · exact ⟨none, 0, by rw [h2]⟩
  · exact ⟨_, _, rfl⟩

theorem stps_len {E : Env} {w : World} {A : Asn} {a : Option Addr} {n c : Nat} {l : List Stp} (h : sat E w (stps (.slice a n c) l * A)) : l.length = n := by
  obtain ⟨_, ⟨hv, h2, _⟩ | ⟨g, cap, cur, hv, _⟩⟩ := Go.Sep.sat.row h
  · injection hv with _ e _
    rw [e]; exact h2
  · injection hv with _ e _
    exact e.symm

/-- an owned slice of steps becomes one that is read -/
theorem stps_freeze {E : Env} {w : World} {A : Asn} {v : Value} {l : List Stp} (hn : l.length ≤ 1000000) (hg : ∀ s ∈ l, s.ok E) (h : sat E w (stps v l * A)) : ∃ E', E.le E' ∧ sat E' w A ∧ Env.steps E' v l := by
  obtain ⟨hl, ⟨rfl, h2, hA⟩ | ⟨g, cap, cur, rfl, c1, c2, c3, c4, hp⟩⟩ := Go.Sep.sat.row h
  · have : l = [] := List.eq_nil_of_length_eq_zero h2
    subst this
    exact ⟨E, .refl E, hA, by simp, hg, none, 0, 0, 0, rfl, .inl ⟨rfl, Lib.hid rfl⟩, fun i hi => absurd hi (Nat.not_lt_zero _)⟩
  · have hle := Env.le_add (.cells cur 40 (0, 0)) hp.not_ro
    refine ⟨E.add g (.cells cur 40 (0, 0)), hle, hp.freeze, by omega, fun s hs => ⟨(hg s hs).1.le hle, (hg s hs).2.le hle⟩, some ⟨g, 0, none⟩, g, 0, cap, rfl, .inr rfl, fun i hi => ?_⟩
    have hc := stpCells_get l i hi
    have cell : ∀ j u, (stpCells l)[j]? = some u → (E.add g (.cells cur 40 (0, 0))).cell? g j = some u := by
      intro j u hj
      simp only [Env.cell?, Env.add, if_true]
      rw [← c4, List.getElem?_take] at hj
      split at hj
      · simpa using hj
      · cases hj
    rw [Nat.zero_add]
    exact ⟨cell _ _ hc.1, cell _ _ hc.2.1, cell _ _ hc.2.2.1, cell _ _ hc.2.2.2⟩

/-- a step of an owned slice -/
theorem stp_at {E : Env} {W : World} {A : Asn} {g n c : Nat} {l : List Stp} (h : sat E W (stps (.slice (some ⟨g, 0, none⟩) n c) l * A)) (i : Nat) (hi : i < l.length) :
    (g < W.heap.size ∧ W.cell? ⟨g, i * 4, none⟩ = some (.int .u8 l[i].kind) ∧ W.cell? ⟨g, i * 4 + 1, none⟩ = some l[i].k ∧ W.cell? ⟨g, i * 4 + 2, none⟩ = some l[i].k2 ∧ W.cell? ⟨g, i * 4 + 3, none⟩ = some (.int .i64 l[i].id)) ∧
    W.frozen? ⟨g, i * 4, none⟩ = false ∧ W.frozen? ⟨g, i * 4 + 1, none⟩ = false ∧ W.frozen? ⟨g, i * 4 + 2, none⟩ = false ∧ W.frozen? ⟨g, i * 4 + 3, none⟩ = false := by
  obtain ⟨hl, ⟨hb, _⟩ | ⟨g', cap', cur, hv, c1, c2, c3, c4, hp⟩⟩ := Go.Sep.sat.row h
  · cases hb
  injection hv with e1 _ e3
  injection e1 with e1
  injection e1 with e1
  subst e1
  have hc := stpCells_get l i hi
  exact ⟨⟨hp.lt, row_cell hp.block c4 _ _ hc.1, row_cell hp.block c4 _ _ hc.2.1, row_cell hp.block c4 _ _ hc.2.2.1, row_cell hp.block c4 _ _ hc.2.2.2⟩, frozen_of_block hp.block, frozen_of_block hp.block, frozen_of_block hp.block, frozen_of_block hp.block⟩

theorem stpCells_set (s : Stp) : ∀ (l : List Stp) (i : Nat), i < l.length → ((((stpCells l).set (i * 4) (.int .u8 s.kind)).set (i * 4 + 1) s.k).set (i * 4 + 2) s.k2).set (i * 4 + 3) (.int .i64 s.id) = stpCells (l.set i s)
  | [], _, h => by simp at h
  | a :: l, 0, _ => by simp [stpCells, Stp.cs]
  | a :: l, i + 1, h => by
    have := stpCells_set s l i (by simpa using h)
    rw [show (i + 1) * 4 = i * 4 + 1 + 1 + 1 + 1 by omega]
    simp only [stpCells, List.flatMap_cons, Stp.cs, List.cons_append, List.nil_append, List.set_cons_succ] at this ⊢
    rw [this]

/-- a step of an owned slice is written -/
theorem stps_store {E : Env} {w : World} {A : Asn} {g n c : Nat} {l : List Stp} (s : Stp) (i : Nat) (hi : i < l.length) (h : sat E w (stps (.slice (some ⟨g, 0, none⟩) n c) l * A)) :
    sat E ((((w.setCell ⟨g, i * 4, none⟩ (.int .u8 s.kind)).setCell ⟨g, i * 4 + 1, none⟩ s.k).setCell ⟨g, i * 4 + 2, none⟩ s.k2).setCell ⟨g, i * 4 + 3, none⟩ (.int .i64 s.id)) (stps (.slice (some ⟨g, 0, none⟩) n c) (l.set i s) * A) := by
  have hn := stps_len h
  subst hn
  have := row_set (i * 4 + 3) (.int .i64 s.id) (row_set (i * 4 + 2) s.k2 (row_set (i * 4 + 1) s.k (row_set (i * 4) (.int .u8 s.kind) h)))
  rw [stpCells_set s l i hi] at this
  unfold stps
  rw [List.length_set]
  exact this

/-! two trees -/
def Two (E : Env) (w : World) (A : Asn) (r1 : Nat) (m1 : List KV) (r2 : Nat) (m2 : List KV) : Prop :=
  ∃ h1 l1 h2 l2, Env.goods E l1 ∧ sorted l1 ∧ kvs l1 = m1 ∧ Env.goods E l2 ∧ sorted l2 ∧ kvs l2 = m2 ∧ Go.Sep.sat E w (tree r1 h1 l1 * (tree r2 h2 l2 * A))

theorem Two.swap {E : Env} {w : World} {A : Asn} {r1 r2 : Nat} {m1 m2 : List KV} (h : Two E w A r1 m1 r2 m2) : Two E w A r2 m2 r1 m1 := by
  obtain ⟨h1, l1, h2, l2, a1, a2, a3, b1, b2, b3, hs⟩ := h
  exact ⟨h2, l2, h1, l1, b1, b2, b3, a1, a2, a3, hs.p2⟩

theorem Two.first {E : Env} {w : World} {A : Asn} {r1 r2 : Nat} {m1 m2 : List KV} (h : Two E w A r1 m1 r2 m2) : ∃ X, TreeE E w X r1 m1 ∧ ∀ E' w' m', E.le E' → TreeE E' w' X r1 m' → Two E' w' A r1 m' r2 m2 := by
  obtain ⟨h1, l1, h2, l2, a1, a2, a3, b1, b2, b3, hs⟩ := h
  refine ⟨_, ⟨h1, l1, ⟨a1, a2, hs⟩, a3⟩, fun E' w' m' hE hT => ?_⟩
  obtain ⟨h1', l1', hT, rfl⟩ := hT
  exact ⟨h1', l1', h2, l2, hT.1, hT.2.1, rfl, b1.le hE, b2, b3, hT.2.2⟩

theorem Two.make {E : Env} {w : World} {A : Asn} {r1 : Nat} {m1 : List KV} (h : TreeE E w A r1 m1) : ∃ X, Go.Sep.sat E w X ∧ ∀ E' w' r2 m2, E.le E' → TreeE E' w' X r2 m2 → Two E' w' A r1 m1 r2 m2 := by
  obtain ⟨h1, l1, hT, rfl⟩ := h
  refine ⟨_, hT.2.2, fun E' w' r2 m2 hE hT2 => ?_⟩
  obtain ⟨h2, l2, hT2, rfl⟩ := hT2
  exact ⟨h1, l1, h2, l2, hT.1.le hE, hT.2.1, rfl, hT2.1, hT2.2.1, rfl, hT2.2.2.p2⟩

theorem Two.sat {E : Env} {w : World} {A : Asn} {r1 r2 : Nat} {m1 m2 : List KV} (h : Two E w A r1 m1 r2 m2) : Go.Sep.sat E w A := by
  obtain ⟨h1, l1, h2, l2, a1, a2, a3, b1, b2, b3, hs⟩ := h
  exact hs.drop.drop

theorem delE (E : Env) (w : World) (A : Asn) (r : Nat) (m : List KV) (k : Value) (lk : List Val) (id : Int) (hT : TreeE E w A r m) (hv : E.vals k lk) (hn : m.length ≤ 100000) :
    Calls Try.prog 17 #[ptr r, k, .int .i64 id] w (Ret fun v w' => v = .bool (decide ((lk, id) ∈ m)) ∧ TreeE E w' A r (del1 (lk, id) m)) := by
  obtain ⟨h, l, hT, rfl⟩ := hT
  refine (treeDel E w A r h l k lk id hT hv (by simpa [kvs] using hn)).mono ?_
  rintro e w' ⟨v, he, h', l', hT', hkv, hv'⟩
  exact ⟨v, he, hv', h', l', hT', hkv⟩

/-! in whatever row -/
theorem mem_put1 {x y : KV} : ∀ {l : List KV}, y ∈ put1 x l ↔ y = x ∨ y ∈ l
  | [] => by simp [put1]
  | a :: l => by
    simp only [put1]
    split
    · rw [List.mem_cons, mem_put1, List.mem_cons]; grind
    · split
      · rename_i h; subst h; simp
      · simp

theorem mem_putAll {y : KV} {l : List KV} : y ∈ putAll l ↔ y ∈ l := by
  have : ∀ (l a : List KV), y ∈ l.foldl (fun a x => put1 x a) a ↔ y ∈ l ∨ y ∈ a := by
    intro l
    induction l with
    | nil => intro a; simp
    | cons x l ih => intro a; rw [List.foldl_cons, ih, mem_put1, List.mem_cons]; grind
  unfold putAll
  rw [this]
  simp

theorem rowed_eq : ∀ {a b : List KV}, rowed a → rowed b → (∀ x, x ∈ a ↔ x ∈ b) → a = b
  | [], [], _, _, _ => rfl
  | [], y :: b, _, _, h => by have := (h y).2 (by simp); cases this
  | x :: a, [], _, _, h => by have := (h x).1 (by simp); cases this
  | x :: a, y :: b, ha, hb, h => by
    obtain ⟨a1, a2⟩ := List.pairwise_cons.1 ha
    obtain ⟨b1, b2⟩ := List.pairwise_cons.1 hb
    have hxy : x = y := by
      rcases List.mem_cons.1 ((h x).1 (by simp)) with e | e
      · exact e
      · rcases List.mem_cons.1 ((h y).2 (by simp)) with e2 | e2
        · exact e2.symm
        · have := Cmp.entry.trans _ _ _ (a1 y e2) (b1 x e)
          exact absurd this (Cmp.entry.lt_irrefl x)
    subst hxy
    congr 1
    refine rowed_eq a2 b2 fun z => ?_
    constructor
    · intro hz
      rcases List.mem_cons.1 ((h z).1 (List.mem_cons_of_mem _ hz)) with e | e
      · subst e; exact absurd (a1 z hz) (Cmp.entry.lt_irrefl z)
      · exact e
    · intro hz
      rcases List.mem_cons.1 ((h z).2 (List.mem_cons_of_mem _ hz)) with e | e
      · subst e; exact absurd (b1 z hz) (Cmp.entry.lt_irrefl z)
      · exact e

theorem high_none {h : Nat} (hh : highOf 0 h) : h = 0 := by
  rcases hh with ⟨h, _⟩ | ⟨d, _, h2, _⟩
  · exact h
  · have := pow_gt d; omega

example (l : List Stp) (i j : Nat) (h1 : i < l.length) (h2 : j < l.length) : ((l.set i l[j]).set j l[i]).Perm l := List.set_set_perm h1 h2

end Go.Proofs.Ytmibiaakppkmmaa
