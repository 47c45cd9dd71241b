/- Keys as they lie in memory that is only read. -/
import Derived.Test.YtmibiaakppkmmaaSep
import Derived.Test.YtmibiaakppkmmaaOrd
import Derived.WalkKit
namespace Go.Sep
set_option linter.unusedVariables false
set_option linter.unusedSimpArgs false
open Go.RowKit

def Env.cell? (E : Env) (b off : Nat) : Option Value :=
  match E.ro b with
  | some (.cells c _ _) => c[off]?
  | _ => none

theorem sat.cell {E : Env} {w : World} {A : Asn} (h : sat E w A) {b off : Nat} {v : Value} (hc : E.cell? b off = some v) : w.cell? ⟨b, off, none⟩ = some v := by
  unfold Env.cell? at hc
  split at hc
  · rename_i c t fz e
    rw [cell_of_block (h.ro _ _ e)]; exact hc
  · cases hc

theorem sat.cell_lt {E : Env} {w : World} {A : Asn} (h : sat E w A) {b off : Nat} {v : Value} (hc : E.cell? b off = some v) : b < w.heap.size := by
  unfold Env.cell? at hc
  split at hc
  · rename_i c t fz e
    exact (Array.getElem?_eq_some_iff.1 (h.ro _ _ e)).1
  · cases hc

theorem Env.le.cell {E E' : Env} (h : E.le E') {b off : Nat} {v : Value} (hc : E.cell? b off = some v) : E'.cell? b off = some v := by
  unfold Env.cell? at hc
  split at hc
  · rename_i c t fz e
    unfold Env.cell?
    rw [h.ro _ _ e]; exact hc
  · cases hc

def str (t : List UInt8) : Value := .string ⟨t.toArray⟩

def Val.cells (v : Val) : Array Value := #[.int .u8 v.kind, .int .i64 v.n, .int .i64 v.hi, .string ⟨v.t.toArray⟩]

/-- the value lies at this place of memory that is only read -/
def Env.valAt (E : Env) (b off : Nat) (v : Val) : Prop :=
  E.cell? b off = some (.int .u8 v.kind) ∧ E.cell? b (off + 1) = some (.int .i64 v.n) ∧ E.cell? b (off + 2) = some (.int .i64 v.hi) ∧ E.cell? b (off + 3) = some (.string ⟨v.t.toArray⟩)

/-- the slice v reads as these values -/
def Env.vals (E : Env) (v : Value) (l : List Val) : Prop :=
  l.length ≤ 140737488355328 ∧ ∃ a b off cap, v = .slice a l.length cap ∧ (Hid (l = []) ∨ a = some ⟨b, off, none⟩) ∧ ∀ i, (h : i < l.length) → E.valAt b (off + i * 4) l[i]

theorem Env.valAt.le {E E' : Env} {b off : Nat} {v : Val} (h : E.valAt b off v) (hE : E.le E') : E'.valAt b off v :=
  ⟨hE.cell h.1, hE.cell h.2.1, hE.cell h.2.2.1, hE.cell h.2.2.2⟩

theorem Env.vals.le {E E' : Env} {v : Value} {l : List Val} (h : E.vals v l) (hE : E.le E') : E'.vals v l := by
  obtain ⟨hn, a, b, off, cap, hv, ha, hc⟩ := h
  exact ⟨hn, a, b, off, cap, hv, ha, fun i hi => (hc i hi).le hE⟩

theorem Env.vals.slice {E : Env} {v : Value} {l : List Val} (h : E.vals v l) : ∃ a cap, v = .slice a l.length cap := by
  obtain ⟨_, a, _, _, cap, hv, _⟩ := h
  exact ⟨a, cap, hv⟩

/-- what a walk wants of a value in its place -/
theorem sat.val {E : Env} {w : World} {A : Asn} (hs : sat E w A) {b off : Nat} {v : Val}
    (h : E.valAt b off v) :
    b < w.heap.size ∧ w.cell? ⟨b, off, none⟩ = some (.int .u8 v.kind) ∧ w.cell? ⟨b, off + 1, none⟩ = some (.int .i64 v.n) ∧ w.cell? ⟨b, off + 2, none⟩ = some (.int .i64 v.hi) ∧ w.cell? ⟨b, off + 3, none⟩ = some (.string ⟨v.t.toArray⟩) :=
  ⟨hs.cell_lt h.1, hs.cell h.1, hs.cell h.2.1, hs.cell h.2.2.1, hs.cell h.2.2.2⟩

end Go.Sep
