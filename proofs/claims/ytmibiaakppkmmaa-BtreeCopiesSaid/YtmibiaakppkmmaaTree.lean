/- Trees of one depth, as ghosts; what a node owns; the entries under it in their row. -/
import Derived.Test.YtmibiaakppkmmaaEnts
namespace Go.Proofs.Ytmibiaakppkmmaa
open Go.RowKit Go.Sep
set_option linter.unusedVariables false
set_option linter.unusedSimpArgs false

structure Nd (κ : Type) where
  es : List Ent
  ks : List (Nat × κ)

/-- a tree of this depth: a leaf at 0 -/
def T : Nat → Type
  | 0 => Nd Empty
  | d + 1 => Nd (T d)

def T.es : {d : Nat} → T d → List Ent
  | 0, t => Nd.es (κ := Empty) t
  | d + 1, t => Nd.es (κ := T d) t

def tails : List Ent → List (List Ent) → List Ent
  | e :: es, k :: ks => e :: (k ++ tails es ks)
  | _, _ => []

def heads : List (List Ent) → List Ent → List Ent
  | k :: ks, e :: es => k ++ e :: heads ks es
  | _, _ => []

def weave : List (List Ent) → List Ent → List Ent
  | [], _ => []
  | k :: ks, es => k ++ tails es ks

theorem tails_split (k : List Ent) (kb : List (List Ent)) (eb : List Ent) : ∀ (ka : List (List Ent)) (ea : List Ent) (e : Ent), ka.length = ea.length → tails (e :: (ea ++ eb)) (ka ++ k :: kb) = e :: (heads ka ea ++ (k ++ tails eb kb))
  | [], [], e, _ => rfl
  | k1 :: ka, e1 :: ea, e, h => by
    have := tails_split k kb eb ka ea e1 (by simpa using h)
    show e :: (k1 ++ tails (e1 :: (ea ++ eb)) (ka ++ k :: kb)) = _
    rw [this]
    simp [heads]

theorem weave_split {k : List Ent} {ka kb : List (List Ent)} {ea eb : List Ent} (h : ka.length = ea.length) : weave (ka ++ k :: kb) (ea ++ eb) = heads ka ea ++ (k ++ tails eb kb) := by
  cases ka with
  | nil => cases ea with
    | nil => rfl
    | cons e ea => simp at h
  | cons k1 ka => cases ea with
    | nil => simp at h
    | cons e ea =>
      have := tails_split k kb eb ka ea e (by simpa using h)
      simp only [List.cons_append, weave, heads, List.append_assoc, this]

theorem weave_join {c1 c2 : List (List Ent)} {e1 e2 : List Ent} {m : Ent} (h : c1.length = e1.length + 1) (h2 : c2 ≠ []) : weave (c1 ++ c2) (e1 ++ m :: e2) = weave c1 e1 ++ m :: weave c2 e2 := by
  cases c1 with
  | nil => simp at h
  | cons k c1 =>
    cases c2 with
    | nil => exact absurd rfl h2
    | cons k2 c2 =>
      have hl : c1.length = e1.length := by simpa using h
      clear h h2
      simp only [List.cons_append, weave, List.append_assoc]
      congr 1
      induction c1 generalizing e1 with
      | nil => cases e1 with
        | nil => simp [tails]
        | cons e e1 => simp at hl
      | cons c c1 ih => cases e1 with
        | nil => simp at hl
        | cons e e1 => simp [tails, ih (e1 := e1) (by simpa using hl)]

/-- the entries under a node, in their row -/
def flat : (d : Nat) → T d → List Ent
  | 0, t => Nd.es (κ := Empty) t
  | d + 1, t => weave ((Nd.ks (κ := T d) t).map fun k => flat d k.2) (Nd.es (κ := T d) t)

/-- the nodes under a node are within their bounds -/
def ok : (d : Nat) → T d → Prop
  | 0, _ => True
  | d + 1, t => (Nd.ks (κ := T d) t).length = (Nd.es (κ := T d) t).length + 1 ∧ ∀ k ∈ Nd.ks (κ := T d) t, 3 ≤ k.2.es.length ∧ k.2.es.length ≤ 7 ∧ ok d k.2

def all : List Asn → Asn
  | [] => 1
  | a :: l => a * all l

theorem all_append (a b : List Asn) : all (a ++ b) = all a * all b := by
  induction a with
  | nil => simp [all, one_sep]
  | cons x a ih => simp [all, ih, sep_assoc]

/-- a node's own block -/
def nd (p : Nat) (ve vk : Value) : Asn := pts p (.cells #[ve, vk] 64 (0, 0))

def under : (d : Nat) → Value → T d → Asn
  | 0, vk, _ => pur (vk = .slice none 0 0)
  | d + 1, vk, t => kids vk ((Nd.ks (κ := T d) t).map (·.1)) * all ((Nd.ks (κ := T d) t).map fun k => ex fun ve => ex fun vk' => nd k.1 ve vk' * (ents ve k.2.es * under d vk' k.2))

/-- a node, and all under it -/
def node (d p : Nat) (t : T d) : Asn := ex fun ve => ex fun vk => nd p ve vk * (ents ve t.es * under d vk t)

def nodes (d : Nat) (ks : List (Nat × T d)) : Asn := all (ks.map fun k => node d k.1 k.2)

theorem nodes_append {d : Nat} (a b : List (Nat × T d)) : nodes d (a ++ b) = nodes d a * nodes d b := by simp [nodes, all_append]
theorem nodes_cons {d p : Nat} (t : T d) (b : List (Nat × T d)) : nodes d ((p, t) :: b) = node d p t * nodes d b := rfl
theorem nodes_nil {d : Nat} : nodes d [] = 1 := rfl

theorem under_zero (vk : Value) (t : T 0) : under 0 vk t = pur (vk = .slice none 0 0) := rfl
theorem under_succ {d : Nat} (vk : Value) (t : T (d + 1)) : under (d + 1) vk t = kids vk ((Nd.ks (κ := T d) t).map (·.1)) * nodes d (Nd.ks (κ := T d) t) := rfl

theorem sat_node {E : Env} {w : World} {A : Asn} {d p : Nat} {t : T d} : sat E w (node d p t * A) ↔ ∃ ve vk, sat E w (nd p ve vk * (ents ve t.es * (under d vk t * A))) := by
  rw [node, sat_ex_sep]
  refine exists_congr fun ve => ?_
  rw [sat_ex_sep]
  refine exists_congr fun vk => ?_
  rw [sep_assoc, sep_assoc]

theorem sat_under_zero {E : Env} {w : World} {A : Asn} {vk : Value} {t : T 0} : sat E w (under 0 vk t * A) ↔ vk = .slice none 0 0 ∧ sat E w A := by rw [under_zero, sat_pur]

/-- the cells of a node -/
theorem nd_cells {E : Env} {w : World} {A : Asn} {p : Nat} {ve vk : Value} (h : sat E w (nd p ve vk * A)) : p < w.heap.size ∧ w.cell? ⟨p, 0, none⟩ = some ve ∧ w.cell? ⟨p, 1, none⟩ = some vk ∧ w.frozen? ⟨p, 0, none⟩ = false ∧ w.frozen? ⟨p, 1, none⟩ = false := by
  have hb := sat.block h
  exact ⟨sat.lt h, by rw [cell_of_block hb]; rfl, by rw [cell_of_block hb]; rfl, frozen_of_block hb, frozen_of_block hb⟩

theorem nd_set0 {E : Env} {w : World} {A : Asn} {p : Nat} {ve vk : Value} (v : Value) (h : sat E w (nd p ve vk * A)) : sat E (w.setCell ⟨p, 0, none⟩ v) (nd p v vk * A) := sat.setCell (off := 0) v h
theorem nd_set1 {E : Env} {w : World} {A : Asn} {p : Nat} {ve vk : Value} (v : Value) (h : sat E w (nd p ve vk * A)) : sat E (w.setCell ⟨p, 1, none⟩ v) (nd p ve v * A) := sat.setCell (off := 1) v h

/-- in their row -/
def sorted (l : List Ent) : Prop := l.Pairwise fun a b => ecmp a.kv b.kv = -1

end Go.Proofs.Ytmibiaakppkmmaa
