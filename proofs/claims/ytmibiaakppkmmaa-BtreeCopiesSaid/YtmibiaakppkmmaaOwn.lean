/- A slice that is owned: its array's block, from its first cell on; append, copy, clear on it. -/
import Derived.Test.YtmibiaakppkmmaaSep
import Derived.Lib.AppendZerosOnto
import Derived.Lib.SliceRun
import Derived.Laws.CopyRow
import Derived.WalkKit
namespace Go.Sep
set_option linter.unusedVariables false
set_option linter.unusedSimpArgs false
open Go.RowKit

/-- v: n elements of sz cells each, which are xs; its block is owned -/
def row (e sz : Nat) (v : Value) (n : Nat) (xs : List Value) : Asn := fun h =>
  xs.length = n * sz ∧ ((v = .slice none 0 0 ∧ n = 0 ∧ ∀ k, h k = none) ∨
    ∃ g cap cur, v = .slice (some ⟨g, 0, none⟩) n cap ∧ n ≤ cap ∧ cap ≤ maxLen ∧ cap * sz ≤ cur.size ∧ cur.toList.take (n * sz) = xs ∧ pts g (.cells cur e (0, 0)) h)

section
variable {E : Env} {w w' : World} {A : Asn} {e sz n : Nat} {v : Value} {xs : List Value}

theorem sat.row (h : sat E w (row e sz v n xs * A)) : xs.length = n * sz ∧ ((v = .slice none 0 0 ∧ n = 0 ∧ sat E w A) ∨
    ∃ g cap cur, v = .slice (some ⟨g, 0, none⟩) n cap ∧ n ≤ cap ∧ cap ≤ maxLen ∧ cap * sz ≤ cur.size ∧ cur.toList.take (n * sz) = xs ∧ sat E w (pts g (.cells cur e (0, 0)) * A)) := by
  obtain ⟨x, ⟨h1, h2, hd, hu, ⟨hl, hr⟩, a⟩, hx⟩ := h.own
  refine ⟨hl, hr.imp (fun ⟨p, q, r⟩ => ⟨p, q, h.drop⟩) ?_⟩
  rintro ⟨g, cap, cur, hv, c1, c2, c3, c4, hp⟩
  exact ⟨g, cap, cur, hv, c1, c2, c3, c4, h.ro, h.os, h.tape, h.output, x, ⟨h1, h2, hd, hu, hp, a⟩, hx⟩

theorem sat.mk_row {g cap : Nat} {cur : Array Value} (h : sat E w (pts g (.cells cur e (0, 0)) * A)) (hl : xs.length = n * sz) (h1 : n ≤ cap) (h2 : cap ≤ maxLen) (h3 : cap * sz ≤ cur.size)
    (h4 : cur.toList.take (n * sz) = xs) : sat E w (Sep.row e sz (.slice (some ⟨g, 0, none⟩) n cap) n xs * A) :=
  h.mono (sep_mono (fun x hp => ⟨hl, .inr ⟨g, cap, cur, rfl, h1, h2, h3, h4, hp⟩⟩) fun _ h => h)

theorem sat.mk_nil (h : sat E w A) : sat E w (Sep.row e sz (.slice none 0 0) 0 [] * A) := by
  have : sat E w (1 * A) := by rw [one_sep]; exact h
  exact this.mono (sep_mono (fun x hp => ⟨show ([] : List Value).length = 0 * sz by simp, .inl ⟨rfl, rfl, hp⟩⟩) fun _ h => h)

/-- a fresh slice, all of whose block is its elements -/
theorem sat.mk_new {g : Nat} {cur : Array Value} (h : sat E w (pts g (.cells cur e (0, 0)) * A)) (hl : cur.size = n * sz) (hm : n ≤ maxLen) :
    sat E w (Sep.row e sz (.slice (some ⟨g, 0, none⟩) n n) n cur.toList * A) :=
  h.mk_row (by rw [Array.length_toList]; exact hl) (Nat.le_refl _) hm (by omega) (by rw [← hl, ← Array.length_toList, List.take_length])

theorem add_lit (g o j : Nat) : (⟨g, o, none⟩ : Addr).add j = ⟨g, o + j, none⟩ := by unfold Addr.add; split <;> simp_all

/-- the cells of an owned slice, for a walk -/
theorem row_cell {g : Nat} {cur : Array Value} (h : w.heap[g]? = some (.cells cur e (0, 0))) (h4 : cur.toList.take (n * sz) = xs) (j : Nat) (u : Value) (hj : xs[j]? = some u) : w.cell? ⟨g, j, none⟩ = some u := by
  rw [cell_of_block h]
  rw [← h4, List.getElem?_take] at hj
  split at hj
  · simpa using hj
  · cases hj

theorem sat.setRow {g : Nat} {cur : Array Value} {fz : Nat × Nat} (cs : Array Value) (h : sat E w (pts g (.cells cur e fz) * A)) : sat E (w.setRow g cs) (pts g (.cells cs e fz) * A) :=
  h.turn (setRow_heap w g cur cs e fz h.block) (fun k hk _ => setRow_other w g k cs hk) rfl rfl rfl

theorem run_first_none {P : Program} (w : World) (size len cap : Nat) (a : Option Addr) : (Builtin.firstCells size 0 (.slice a len cap)).run P w = .ok #[] w := by
  cases a with
  | none => exact run_firstCells_none w size 0 len cap
  | some b => simp [Builtin.firstCells, loadCells, loadCellsFrom]

/-- what a slice that is read holds: its first cells -/
def firsts (P : Program) (w : World) (size n : Nat) (v : Value) (cs : List Value) : Prop :=
  ∀ w' : World, (∀ a x, w.cell? a = some x → w'.cell? a = some x) → (Builtin.firstCells size n v).run P w' = .ok cs.toArray w'

theorem firsts_some {P : Program} {w : World} {size n : Nat} {a : Addr} {len cap : Nat} {cs : List Value} (hl : cs.length = n * size) (h : ∀ j x, cs[j]? = some x → w.cell? (a.add j) = some x) :
    firsts P w size n (.slice (some a) len cap) cs := fun w' hw => run_firstCells_some w' size n a len cap cs hl fun j x hj => hw _ _ (h j x hj)

theorem firsts_zero {P : Program} {w : World} {size : Nat} {a : Option Addr} {len cap : Nat} : firsts P w size 0 (.slice a len cap) [] := fun w' _ => run_first_none w' size len cap a

theorem firsts.mono {P : Program} {w1 : World} {size m : Nat} {v : Value} {cs : List Value} (h : firsts P w size m v cs) (hw : ∀ a x, w.cell? a = some x → w1.cell? a = some x) : firsts P w1 size m v cs :=
  fun w' h' => h w' fun a x e => h' a x (hw a x e)
theorem firsts.alloc {P : Program} {size m : Nat} {v : Value} {cs : List Value} (h : firsts P w size m v cs) (o : Obj) : firsts P (w.alloc o) size m v cs := h.mono fun a x e => Lib.cell?_alloc_some o e
theorem firsts.drew {P : Program} {size m : Nat} {v : Value} {cs : List Value} (h : firsts P w size m v cs) : firsts P w.drew size m v cs := h.mono fun a x e => e

/-- an owned slice, read -/
theorem sat.firsts_row {P : Program} (h : sat E w (Sep.row e sz v n xs * A)) : firsts P w sz n v xs := by
  obtain ⟨hl, ⟨rfl, rfl, _⟩ | ⟨g, cap, cur, rfl, h1, h2, h3, h4, hp⟩⟩ := h.row
  · have : xs = [] := List.eq_nil_of_length_eq_zero (by simpa using hl)
    subst this
    exact firsts_zero
  · exact firsts_some hl fun j x hj => by rw [add_lit, Nat.zero_add]; exact row_cell hp.block h4 j x hj

/-- the type of a slice's elements, as append asks for it -/
structure Elem (P : Program) (t e : TypeId) (i : TypeInfo) (z : Value) (sz bytes : Nat) : Prop where
  ht : P.underlying t = some (.slice e)
  hi : P.info? e = some i
  hz : i.zero = some z
  size : i.size = sz
  bytes : i.bytes = bytes
  zsize : z.cells.size = sz
  pos : 0 < sz

/-- 'append(v, src...)': v owned, src read. -/
theorem append_row {P : Program} {t : TypeId} {i : TypeInfo} {z : Value} {bytes : Nat} (el : Elem P t e i z sz bytes) (ty : TypeId) (h : sat E w (Sep.row e sz v n xs * A))
    (a2 : Option Addr) (m c2 : Nat) (news : List Value) (hl : news.length = m * sz) (hsrc : firsts P w sz m (.slice a2 m c2) news) (h1 : ∀ u ∈ news, u.oneCell' = true)
    (h63 : n + m ≤ maxLen) (hb : (n + m) * bytes ≤ 140737488355328) :
    ∃ v' w', (Builtin.append_ #[t, t] ty #[v, .slice a2 m c2]).run P w = .ok v' w' ∧ sat E w' (Sep.row e sz v' (n + m) (xs ++ news) * A) ∧ (v' = .slice none 0 0 ↔ v = .slice none 0 0 ∧ m = 0) ∧ w.heap.size ≤ w'.heap.size ∧
      (m = 0 → v' = v ∧ w' = w) ∧ (∀ g cap, v = .slice (some ⟨g, 0, none⟩) n cap → n + m ≤ cap → v' = .slice (some ⟨g, 0, none⟩) (n + m) cap) := by
  obtain ⟨ht, hi, hz, rfl, rfl, hzs, hsz⟩ := el
  have hfw : (Builtin.firstCells i.size m (.slice a2 m c2)).run P w = .ok news.toArray w := hsrc w fun _ _ h => h
  have hsmall : n + m ≤ 9223372036854775807 := by simp only [maxLen] at h63; omega
  by_cases hm : m = 0
  · subst hm
    have hn : news = [] := List.eq_nil_of_length_eq_zero (by simpa using hl)
    subst hn
    refine ⟨v, w, ?_, by simpa using h, by simp, Nat.le_refl _, fun _ => ⟨rfl, rfl⟩, fun g cap hv hc => by simpa using hv⟩
    obtain ⟨_, ⟨rfl, rfl, _⟩ | ⟨g, cap, cur, rfl, c1, c2, c3, c4, hp⟩⟩ := h.row
    · simp [Builtin.append_, run_underlying ht, sizeOf, typeInfo, hi, Builtin.lenOf, hfw]
    · simp [Builtin.append_, run_underlying ht, sizeOf, typeInfo, hi, Builtin.lenOf, c1, hfw, storeCells]
  · -- a new array
    have grow : ∀ (a1 : Option Addr) (cap : Nat), v = .slice a1 n cap → cap < n + m → firsts P w i.size n v xs → sat E w A → ∃ v' w', (Builtin.append_ #[t, t] ty #[v, .slice a2 m c2]).run P w = .ok v' w' ∧ sat E w' (Sep.row e i.size v' (n + m) (xs ++ news) * A) ∧
        (v' = .slice none 0 0 ↔ v = .slice none 0 0 ∧ m = 0) ∧ w.heap.size ≤ w'.heap.size ∧ (m = 0 → v' = v ∧ w' = w) ∧ (∀ g cap, v = .slice (some ⟨g, 0, none⟩) n cap → n + m ≤ cap → v' = .slice (some ⟨g, 0, none⟩) (n + m) cap) := by
      rintro a1 cap rfl hg hf hA
      have hn : ¬ (n + m ≤ cap) := by omega
      have h63' : ¬ (9223372036854775807 < ((n : Int) + (m : Int))) := by omega
      have h48' : ¬ (281474976710656 < Builtin.nextslicecap (n + m) cap * i.bytes) := by have := growslice_fits (old := cap) (need := n + m) hg hb; omega
      have hfd := hsrc w.drew fun _ _ h => h
      have hfo := hf w.drew fun _ _ h => h
      refine ⟨.slice (some ⟨w.heap.size, 0, none⟩) (n + m) (grownCap w (n + m) cap e), w.drew.alloc (.cells (xs.toArray ++ news.toArray ++ Builtin.zeroCells z.cells (grownCap w (n + m) cap e - (n + m))) e), ?_, ?_, by simp [hm], by simp, fun h => absurd h hm, fun g' cap' hv hc => ?_⟩
      · simp [Builtin.append_, run_underlying ht, sizeOf, typeInfo, zeroValue, hi, hz, Builtin.lenOf, hn, h63', h48', Question.forced, hfd, hfo, newRow, grownCap]
        congr 2
        apply Array.ext'
        simp [List.append_assoc]
      · have hlx : xs.length = n * i.size := h.row.1
        refine sat.mk_row (hA.drew.alloc _) ?_ (grownCap_ge w _ _ e) (grownCap_le_maxLen w _ _ e h63) ?_ ?_
        · rw [List.length_append, hlx, hl, Nat.add_mul]
        · have hge := grownCap_ge w (n + m) cap e
          simp only [Array.size_append, List.size_toArray, size_zeroCells, hzs, hlx, hl, ← Nat.add_mul]
          apply Nat.le_of_eq
          congr 1
          omega
        · simp only [Array.toList_append, List.append_assoc]
          rw [← List.append_assoc, show (n + m) * i.size = (xs ++ news).length by rw [List.length_append, hlx, hl, Nat.add_mul]]
          exact List.take_left
      · injection hv with e1 e2 e3
        omega
    have hf := h.firsts_row (P := P)
    obtain ⟨hlx, ⟨rfl, rfl, hA⟩ | ⟨g, cap, cur, rfl, c1, c2, c3, c4, hp⟩⟩ := h.row
    · exact grow none 0 rfl (by omega) hf hA
    · by_cases hroom : n + m ≤ cap
      · have hfit : n * i.size + news.length ≤ cur.size := by rw [hl, ← Nat.add_mul]; exact Nat.le_trans (Nat.mul_le_mul_right _ hroom) c3
        have hst := run_storeCells_at P g (n * i.size) e news 0 cur w hp.block (by simpa using hfit) h1
        simp only [Nat.add_zero] at hst
        refine ⟨.slice (some ⟨g, 0, none⟩) (n + m) cap, w.setRow g (cur.toList.take (n * i.size) ++ news ++ cur.toList.drop (n * i.size + news.length)).toArray, ?_, sat.mk_row (hp.setRow _) ?_ hroom c2 ?_ ?_, by simp, by simp [World.setRow], fun h => absurd h hm, fun g' cap' hv hc => ?_⟩
        · simp [Builtin.append_, run_underlying ht, sizeOf, typeInfo, hi, Builtin.lenOf, hroom, hfw, add_lit, hst]
        · rw [List.length_append, hlx, hl, Nat.add_mul]
        · simp only [List.size_toArray, List.length_append, List.length_take, List.length_drop, Array.length_toList]
          omega
        · rw [c4, List.append_assoc, ← List.append_assoc, show (n + m) * i.size = (xs ++ news).length by rw [List.length_append, hlx, hl, Nat.add_mul]]
          exact List.take_left
        · injection hv with e1 e2 e3
          injection e1 with e1
          injection e1 with e1
          subst e1; subst e3; rfl
      · exact grow _ cap rfl (by omega) hf hp.drop

/-- the cells of k zero values -/
def zeros (z : Value) (k : Nat) : List Value := (Builtin.zeroCells z.cells k).toList

theorem zeros_length (z : Value) (k : Nat) : (zeros z k).length = k * z.cells.size := by simp [zeros, size_zeroCells]

/-- 'append(s, make([]T, k)...)' where there is no room -/
theorem append_zeros {P : Program} {t tn : TypeId} {i : TypeInfo} {z : Value} {bytes : Nat} {kn : IntKind} (el : Elem P t e i z sz bytes) (htn : P.underlying tn = some (.int kn)) (ty : TypeId) (h : sat E w A)
    (a1 : Option Addr) (cap : Nat) (hf : firsts P w sz n (.slice a1 n cap) xs) (hlx : xs.length = n * sz) (k : Nat) (hk : 0 < k) (hg : cap < n + k) (h63 : n + k ≤ maxLen) (hb : (n + k) * bytes ≤ 140737488355328) :
    ∃ cap' cur w', (Builtin.append_ #[t, tn] ty #[.slice a1 n cap, .int .i64 k]).run P w = .ok (.slice (some ⟨w.heap.size, 0, none⟩) (n + k) cap') w' ∧ n + k ≤ cap' ∧ cap' ≤ maxLen ∧ cur.size = cap' * sz ∧
      cur.toList.take (n * sz) = xs ∧ sat E w' (pts w.heap.size (.cells cur e (0, 0)) * A) ∧ (∀ k, k < w.heap.size → w'.heap[k]? = w.heap[k]?) := by
  obtain ⟨ht, hi, hz, rfl, rfl, hzs, hsz⟩ := el
  have hsmall : n + k ≤ 9223372036854775807 := by simp only [maxLen] at h63; omega
  have hkb : k * i.bytes ≤ 281474976710656 := by
    have : k * i.bytes ≤ (n + k) * i.bytes := Nat.mul_le_mul_right _ (by omega)
    omega
  have hr := Lib.run_append_grow_zeros (P := P) w t tn ty e i z .i64 kn ht htn hi hz a1 n cap xs (hf w.drew fun _ _ h => h) k hk hsz hg (by omega) hkb (growslice_fits hg hb)
  have hge := grownCap_ge w (n + k) cap e
  refine ⟨_, _, _, hr, hge, grownCap_le_maxLen w _ _ e h63, ?_, ?_, h.drew.alloc _, fun j hj => Below.heap_alloc w.drew _ j hj⟩
  · simp only [Array.size_append, List.size_toArray, size_zeroCells, hzs, hlx, ← Nat.add_mul]
    congr 1
    omega
  · simp only [Array.toList_append, List.append_assoc]
    rw [← hlx]
    exact List.take_left

/-- 'copy(dst, src)', dst a piece of an owned block -/
theorem own_copy {P : Program} {dT sT : TypeId} {i : TypeInfo} (ty : TypeId) (hu : P.underlying dT = some (.slice e)) (hi : P.info? e = some i) (hsz : i.size = sz) {g : Nat} {cur : Array Value} {t : TypeId} (o dLen dCap : Nat) (hg : w.heap[g]? = some (.cells cur t (0, 0)))
    (a2 : Option Addr) (sLen sCap m : Nat) (cs : List Value) (hm : Nat.min sLen dLen = m) (hl : cs.length = m * sz) (hsrc : firsts P w sz m (.slice a2 sLen sCap) cs) (h1 : ∀ u ∈ cs, u.oneCell' = true) (hfit : o + cs.length ≤ cur.size) :
    (Builtin.copy_ #[dT, sT] ty #[.slice (some ⟨g, o, none⟩) dLen dCap, .slice a2 sLen sCap]).run P w = .ok (goInt m) (w.setRow g (cur.toList.take o ++ cs ++ cur.toList.drop (o + cs.length)).toArray) := by
  subst hsz
  have hf := hsrc w fun _ _ h => h
  have hst := run_storeCells_at P g o t cs 0 cur w hg (by simpa using hfit) h1
  simp only [Nat.add_zero] at hst
  simp [Builtin.copy_, run_underlying hu, Builtin.lenOf, sizeOf, typeInfo, hi, hm, hf, hst]

/-- 'clear(s)', s a piece of an owned block -/
theorem own_clear {P : Program} {t : TypeId} {i : TypeInfo} {z : Value} {bytes : Nat} (el : Elem P t e i z sz bytes) (ty : TypeId) {g : Nat} {cur : Array Value} {te : TypeId} (o m cap : Nat) (hm : 0 < m) (hg : w.heap[g]? = some (.cells cur te (0, 0)))
    (h1 : ∀ u ∈ zeros z m, u.oneCell' = true) (hfit : o + m * sz ≤ cur.size) :
    (Builtin.clear_ #[t] ty #[.slice (some ⟨g, o, none⟩) m cap]).run P w = .ok (.tuple #[]) (w.setRow g (cur.toList.take o ++ zeros z m ++ cur.toList.drop (o + m * sz)).toArray) := by
  obtain ⟨ht, hi, hz, rfl, rfl, hzs, hsz⟩ := el
  have hl := zeros_length z m
  rw [hzs] at hl
  have hst := run_storeCells_at P g o te (zeros z m) 0 cur w hg (by rw [hl]; simpa using hfit) h1
  simp only [Nat.add_zero, hl] at hst
  obtain ⟨k, rfl⟩ : ∃ k, m = k + 1 := ⟨m - 1, by omega⟩
  simp only [zeros] at hst ⊢
  simp [Builtin.clear_, run_underlying ht, typeInfo, zeroValue, hi, hz, hst]

theorem own_clear_none {P : Program} {t : TypeId} (ht : P.underlying t = some (.slice e)) (ty : TypeId) (a : Option Addr) (cap : Nat) :
    (Builtin.clear_ #[t] ty #[.slice a 0 cap]).run P w = .ok (.tuple #[]) w := by
  cases a <;> simp [Builtin.clear_, run_underlying ht]

end

/-! The builtins, for a walk: a run that is known. -/
theorem wpList_copy_run {P : Program} {w : World} {ops : Array Oper} {rest : List Oper} {o : Oper} {a : Act} {Q : Exit → Act → World → Prop} (hgd : o.guard = none) (s x : Operand) (t tn : TypeId)
    (ho : o.op = .call { callee := .builtin .copy, args := #[s, x], argTypes := #[t, tn] }) (vs vx : Value) (hs : a.eval s = vs) (hx : a.eval x = vx)
    (v' : Value) (w' : World) (hr : (Builtin.copy_ #[t, tn] o.type #[vs, vx]).run P w = .ok v' w') (h : wpList P ops Q rest (a.put o.dst v') w') : wpList P ops Q (o :: rest) a w :=
  wpList_plain hgd fun K hK => by
    have := hK _ _ h
    unfold Oper.wp execOp
    simp only [ho, resolve, invoke, builtin, Sem.run_bind, Sem.run_pure, Result.andThen_ok, List.map_toArray, List.map_cons, List.map_nil, hs, hx, hr]
    exact this

theorem wpList_clear_run {P : Program} {w : World} {ops : Array Oper} {rest : List Oper} {o : Oper} {a : Act} {Q : Exit → Act → World → Prop} (hgd : o.guard = none) (s : Operand) (t : TypeId)
    (ho : o.op = .call { callee := .builtin .clear, args := #[s], argTypes := #[t] }) (vs : Value) (hs : a.eval s = vs)
    (v' : Value) (w' : World) (hr : (Builtin.clear_ #[t] o.type #[vs]).run P w = .ok v' w') (h : wpList P ops Q rest (a.put o.dst v') w') : wpList P ops Q (o :: rest) a w :=
  wpList_plain hgd fun K hK => by
    have := hK _ _ h
    unfold Oper.wp execOp
    simp only [ho, resolve, invoke, builtin, Sem.run_bind, Sem.run_pure, Result.andThen_ok, List.map_toArray, List.map_cons, List.map_nil, hs, hr]
    exact this

end Go.Sep
