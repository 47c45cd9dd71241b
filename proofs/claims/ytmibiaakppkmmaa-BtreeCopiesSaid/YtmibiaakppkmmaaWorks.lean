/- The examples. -/
import Derived.Test.YtmibiaakppkmmaaHigh
namespace Go.Proofs.Ytmibiaakppkmmaa
open Go.RowKit Go.Sep
set_option linter.unusedVariables false
set_option linter.unusedSimpArgs false

theorem num_slice {E : Env} {v : Value} {n : Int} (h : E.vals v (num n)) : ∃ a c, v = .slice (some a) 1 c ∧ E.vals (.slice (some a) (num n).length c) (num n) := by
  have h0 := h
  obtain ⟨_, a, b, off, cap, rfl, ha, _⟩ := h
  rcases ha with hl | rfl
  · have := hl.out; cases this
  · exact ⟨_, cap, rfl, h0⟩

theorem num_len (n : Int) : (num n).length ≤ 1000000 := by simp [num]

theorem newInts {E : Env} {w : World} {A : Asn} (l : List Int) (hs : sat E w A) (hl : l.length ≤ 1000000) : ∃ E', E.le E' ∧ sat E' (w.alloc (.cells (l.map (Value.int .i64)).toArray 3)) A ∧ Env.ints E' (.slice (some ⟨w.heap.size, 0, none⟩) l.length l.length) l := by
  have h2 := hs.alloc (.cells (l.map (Value.int .i64)).toArray 3)
  have h3 : sat E _ (nums (.slice (some ⟨w.heap.size, 0, none⟩) l.length l.length) l * A) := h2.mk_new (n := l.length) (sz := 1) (by simp) (by unfold maxLen; omega)
  exact nums_freeze hl h3

theorem TreeE.frame {E : Env} {w : World} {A : Asn} {r : Nat} {m : List KV} (h : TreeE E w A r m) : ∃ X, Go.Sep.sat E w X ∧ ∀ E' w', E.le E' → Go.Sep.sat E' w' X → TreeE E' w' A r m := by
  obtain ⟨h, l, hT, rfl⟩ := h
  exact ⟨_, hT.2.2, fun E' w' hE hs => ⟨h, l, ⟨hT.1.le hE, hT.2.1, hs⟩, rfl⟩⟩

theorem oneE (E : Env) (w : World) (A : Asn) (r : Nat) (m : List KV) (n : Int) (hT : TreeE E w A r m) : Calls Try.prog 25 #[.int .i64 n] w (Ret fun v w' => ∃ a c E', v = .slice (some a) 1 c ∧ E.le E' ∧ TreeE E' w' A r m ∧ E'.vals (.slice (some a) (num n).length c) (num n)) := by
  obtain ⟨X, hs, hX⟩ := hT.frame
  refine (oneKey E w X n hs).mono ?_
  rintro e w' ⟨v, he, E', hE, hs', hv⟩
  obtain ⟨a, c, rfl, hv'⟩ := num_slice hv
  exact ⟨_, he, a, c, E', rfl, hE, hX E' w' hE hs', hv'⟩

theorem newIntsE {E : Env} {w : World} {A : Asn} {r : Nat} {m : List KV} (l : List Int) (hT : TreeE E w A r m) (hl : l.length ≤ 1000000) : ∃ E', E.le E' ∧ TreeE E' (w.alloc (.cells (l.map (Value.int .i64)).toArray 3)) A r m ∧ Env.ints E' (.slice (some ⟨w.heap.size, 0, none⟩) l.length l.length) l := by
  obtain ⟨X, hs, hX⟩ := hT.frame
  obtain ⟨E', hE, hs', hi⟩ := newInts l hs hl
  exact ⟨E', hE, hX _ _ hE hs', hi⟩

theorem sameIntsE (E : Env) (w : World) (A : Asn) (r : Nat) (m : List KV) (v1 v2 : Value) (l1 l2 : List Int) (hT : TreeE E w A r m) (h1 : Env.ints E v1 l1) (h2 : Env.ints E v2 l2) :
    Calls Try.prog 14 #[v1, v2] w (Ret fun v w' => v = .bool (decide (l1 = l2)) ∧ TreeE E w' A r m) := by
  obtain ⟨X, hs, hX⟩ := hT.frame
  refine (sameInts E w X v1 v2 l1 l2 hs h1 h2).mono ?_
  rintro e w' ⟨v, he, hv, hs'⟩
  exact ⟨v, he, hv, hX _ _ (.refl E) hs'⟩

theorem isTE (E : Env) (w : World) (A : Asn) (r : Nat) (m : List KV) (v1 v2 : Value) (l : List Ent) (ns : List (Int × Int)) (hT : TreeE E w A r m) (h1 : Env.ents E v1 l) (hkv : kvs l = ns.map fun p => (num p.1, p.2)) (h2 : Env.ints E v2 (ns.flatMap fun p => [p.1, p.2])) :
    Calls Try.prog 26 #[v1, v2] w (Ret fun v w' => v = .bool true ∧ TreeE E w' A r m) := by
  obtain ⟨X, hs, hX⟩ := hT.frame
  refine (isE E w X v1 v2 l ns hs h1 hkv h2).mono ?_
  rintro e w' ⟨v, he, hv, hs'⟩
  exact ⟨v, he, hv, hX _ _ (.refl E) hs'⟩

def m1 : List KV := [(num 1, 5)]
def m2 : List KV := [(num 1, 5), (num 2, 1)]
def m3 : List KV := [(num 1, 5), (num 1, 9), (num 2, 1)]

theorem small_nums (ns : List (Int × Int)) (h : ns.length ≤ 100000) : Small (ns.map fun p => (num p.1, p.2)) := by
  refine ⟨by simpa using h, fun x hx => ?_⟩
  obtain ⟨p, _, rfl⟩ := List.mem_map.1 hx
  exact num_len _

example : put1 (num 1, 5) [] = m1 := by decide
example : put1 (num 1, 5) m1 = m1 := by decide
example : keyIds (num 1) m1 = [5] := by decide
example : put1 (num 2, 1) m1 = m2 := by decide
example : put1 (num 1, 9) m2 = m3 := by decide
example : piece (fun _ => true) [] m3 = m3 := by decide
example : piece (fun x => decide (¬ kcmp x.1 (num 1) < 0)) (num 2) m3 = [(num 1, 5), (num 1, 9)] := by decide

end Go.Proofs.Ytmibiaakppkmmaa
