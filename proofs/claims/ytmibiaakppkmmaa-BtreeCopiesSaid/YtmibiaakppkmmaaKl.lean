/- Nodes of whatever depth, in one form: their entries and their kids; joined, and an entry shifted. -/
import Derived.Test.YtmibiaakppkmmaaTreePut
namespace Go.Proofs.Ytmibiaakppkmmaa
open Go.RowKit Go.Sep
set_option linter.unusedVariables false
set_option linter.unusedSimpArgs false

/-- what a node's kids are -/
def Kd : Nat → Type
  | 0 => Empty
  | d + 1 => T d

def T.kl : {d : Nat} → T d → List (Nat × Kd d)
  | 0, t => Nd.ks (κ := Empty) t
  | d + 1, t => Nd.ks (κ := T d) t

def T.of : {d : Nat} → List Ent → List (Nat × Kd d) → T d
  | 0, es, ks => (⟨es, ks⟩ : Nd Empty)
  | d + 1, es, ks => (⟨es, ks⟩ : Nd (T d))

theorem of_es {d : Nat} (es : List Ent) (ks : List (Nat × Kd d)) : (T.of es ks).es = es := by cases d <;> rfl
theorem of_kl {d : Nat} (es : List Ent) (ks : List (Nat × Kd d)) : (T.of es ks).kl = ks := by cases d <;> rfl
theorem of_eta {d : Nat} (t : T d) : T.of t.es t.kl = t := by cases d <;> rfl
theorem of_succ {d : Nat} (es : List Ent) (ks : List (Nat × T d)) : (T.of (d := d + 1) es ks) = mk es ks := rfl
theorem kl_zero (l : List (Nat × Kd 0)) : l = [] := by
  cases l with
  | nil => rfl
  | cons a l => exact a.2.elim

def nodesK : (d : Nat) → List (Nat × Kd d) → Asn
  | 0, _ => 1
  | d + 1, ks => nodes d ks

theorem nodesK_append {d : Nat} (a b : List (Nat × Kd d)) : nodesK d (a ++ b) = nodesK d a * nodesK d b := by
  cases d with
  | zero => simp [nodesK, one_sep]
  | succ d => exact nodes_append a b

theorem kids_nil {h : Hp} : kids (.slice none 0 0) [] h ↔ ∀ k, h k = none := by
  unfold kids row
  constructor
  · rintro ⟨_, ⟨_, _, h⟩ | ⟨g, cap, cur, hv, _⟩⟩
    · exact h
    · cases hv
  · intro h
    exact ⟨rfl, .inl ⟨rfl, rfl, h⟩⟩

/-- the kids of a node, at whatever depth -/
theorem sat_under {E : Env} {w : World} {A : Asn} {d : Nat} {vk : Value} {t : T d} : sat E w (under d vk t * A) ↔ (d = 0 → vk = .slice none 0 0) ∧ sat E w (kids vk (t.kl.map (·.1)) * (nodesK d t.kl * A)) := by
  cases d with
  | zero =>
    rw [sat_under_zero]
    have hk : t.kl = [] := kl_zero _
    rw [hk, nodesK, one_sep, List.map_nil]
    constructor
    · rintro ⟨rfl, h⟩
      exact ⟨fun _ => rfl, h.mk_nil (e := 55) (sz := 1)⟩
    · rintro ⟨h1, h2⟩
      exact ⟨h1 rfl, h2.drop⟩
  | succ d =>
    rw [show under (d + 1) vk t = kids vk (t.kl.map (·.1)) * nodesK (d + 1) t.kl from rfl, sep_assoc]
    exact ⟨fun h => ⟨fun e => (by cases e), h⟩, fun h => h.2⟩

/-- a node is opened, at whatever depth -/
theorem sat_nodeK {E : Env} {w : World} {A : Asn} {d p : Nat} {t : T d} : sat E w (node d p t * A) ↔ ∃ ve vk, (d = 0 → vk = .slice none 0 0) ∧ sat E w (nd p ve vk * (ents ve t.es * (kids vk (t.kl.map (·.1)) * (nodesK d t.kl * A)))) := by
  rw [sat_node]
  refine exists_congr fun ve => exists_congr fun vk => ?_
  constructor
  · intro h
    obtain ⟨h1, h2⟩ := sat_under.1 h.p3
    exact ⟨h1, h2.p3.p4.p2⟩
  · rintro ⟨h1, h2⟩
    exact (sat_under.2 ⟨h1, h2.p3.p4.p2⟩).r3

/-- how many kids a node has -/
def kn (d n : Nat) : Nat := if d = 0 then 0 else n + 1

theorem ok_kl {d : Nat} {t : T d} (h : ok d t) : t.kl.length = kn d t.es.length := by
  cases d with
  | zero => rw [kl_zero t.kl]; rfl
  | succ d => exact h.1

def okT {d : Nat} (t : T d) : Prop := 3 ≤ t.es.length ∧ t.es.length ≤ 7 ∧ ok d t
def okKid : (d : Nat) → Nat × Kd d → Prop
  | 0, _ => True
  | d + 1, k => okT (d := d) k.2

theorem ok_iff {d : Nat} {t : T d} : ok d t ↔ t.kl.length = kn d t.es.length ∧ ∀ k ∈ t.kl, okKid d k := by
  cases d with
  | zero => exact ⟨fun _ => ⟨by rw [kl_zero t.kl]; rfl, fun k _ => trivial⟩, fun _ => trivial⟩
  | succ d => exact Iff.rfl

/-! joined -/
def joinT {d : Nat} (a : T d) (m : Ent) (b : T d) : T d := T.of (a.es ++ m :: b.es) (a.kl ++ b.kl)

theorem flat_join {d : Nat} {a b : T d} {m : Ent} (ha : ok d a) (hb : ok d b) : flat d (joinT a m b) = flat d a ++ m :: flat d b := by
  cases d with
  | zero => rfl
  | succ d =>
    have h1 : a.ks.length = a.es.length + 1 := ha.1
    have h2 : b.ks.length = b.es.length + 1 := hb.1
    have := weave_join (c1 := a.ks.map fun k => flat d k.2) (c2 := b.ks.map fun k => flat d k.2) (e1 := a.es) (e2 := b.es) (m := m) (by simpa using h1) (by intro e; have := congrArg List.length e; simp at this; rw [this] at h2; simp at h2)
    rw [← List.map_append] at this
    exact this

theorem ok_join {d : Nat} {a b : T d} {m : Ent} (ha : ok d a) (hb : ok d b) : ok d (joinT a m b) := by
  obtain ⟨h1, h2⟩ := ok_iff.1 ha
  obtain ⟨h3, h4⟩ := ok_iff.1 hb
  refine ok_iff.2 ⟨?_, ?_⟩
  · rw [joinT, of_kl, of_es, List.length_append, h1, h3, List.length_append, List.length_cons]
    unfold kn
    split <;> omega
  · rw [joinT, of_kl]
    intro k hk
    rcases List.mem_append.1 hk with hk | hk
    · exact h2 k hk
    · exact h4 k hk

/-- a node cut at an entry -/
theorem cutAt {d : Nat} {t : T d} (h : ok d t) {ea eb : List Ent} {y : Ent} (hes : t.es = ea ++ y :: eb) : ∃ a b : T d, t = joinT a y b ∧ a.es = ea ∧ b.es = eb ∧ ok d a ∧ ok d b := by
  obtain ⟨h1, h2⟩ := ok_iff.1 h
  have hl : t.kl.length = kn d ea.length + kn d eb.length := by
    rw [h1, hes]
    unfold kn
    simp
    split <;> omega
  refine ⟨T.of ea (t.kl.take (kn d ea.length)), T.of eb (t.kl.drop (kn d ea.length)), ?_, of_es _ _, of_es _ _, ok_iff.2 ⟨?_, ?_⟩, ok_iff.2 ⟨?_, ?_⟩⟩
  · rw [joinT, of_es, of_es, of_kl, of_kl, List.take_append_drop, ← hes, of_eta]
  · rw [of_kl, of_es, List.length_take, hl]; omega
  · rw [of_kl]; exact fun k hk => h2 k (List.mem_of_mem_take hk)
  · rw [of_kl, of_es, List.length_drop, hl]; omega
  · rw [of_kl]; exact fun k hk => h2 k (List.mem_of_mem_drop hk)

end Go.Proofs.Ytmibiaakppkmmaa
