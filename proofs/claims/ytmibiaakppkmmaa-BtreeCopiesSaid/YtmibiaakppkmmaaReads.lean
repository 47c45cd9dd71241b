/- Slices of entries, of numbers and of steps, as they lie in memory that is only read. -/
import Derived.Test.YtmibiaakppkmmaaTreePut
namespace Go.Proofs.Ytmibiaakppkmmaa
open Go.RowKit Go.Sep
set_option linter.unusedVariables false
set_option linter.unusedSimpArgs false

/-- a slice reads as these entries -/
def Env.ents (E : Env) (v : Value) (es : List Ent) : Prop :=
  es.length ≤ 1000000 ∧ Env.goods E es ∧ ∃ a b off cap, v = .slice a es.length cap ∧ (a = none ∧ Hid (es = []) ∨ a = some ⟨b, off, none⟩) ∧
    ∀ i, (h : i < es.length) → E.cell? b (off + i * 2) = some es[i].k ∧ E.cell? b (off + i * 2 + 1) = some (.int .i64 es[i].id)

/-- a slice reads as these numbers -/
def Env.ints (E : Env) (v : Value) (l : List Int) : Prop :=
  l.length ≤ 1000000 ∧ ∃ a b off cap, v = .slice a l.length cap ∧ (a = none ∧ Hid (l = []) ∨ a = some ⟨b, off, none⟩) ∧
    ∀ i, (h : i < l.length) → E.cell? b (off + i) = some (.int .i64 l[i])

/-- a step: its kind, its key and where that lies, the other key, its number -/
structure Stp where
  kind : Int
  k : Value
  l : List Val
  k2 : Value
  l2 : List Val
  id : Int

def Stp.ok (E : Env) (s : Stp) : Prop := E.vals s.k s.l ∧ E.vals s.k2 s.l2

/-- a slice reads as these steps -/
def Env.steps (E : Env) (v : Value) (l : List Stp) : Prop :=
  l.length ≤ 140737488355328 ∧ (∀ s ∈ l, s.ok E) ∧ ∃ a b off cap, v = .slice a l.length cap ∧ (a = none ∧ Hid (l = []) ∨ a = some ⟨b, off, none⟩) ∧
    ∀ i, (h : i < l.length) → E.cell? b (off + i * 4) = some (.int .u8 l[i].kind) ∧ E.cell? b (off + i * 4 + 1) = some l[i].k ∧ E.cell? b (off + i * 4 + 2) = some l[i].k2 ∧ E.cell? b (off + i * 4 + 3) = some (.int .i64 l[i].id)

theorem Env.ents.le {E E' : Env} {v : Value} {l : List Ent} (h : Env.ents E v l) (hE : E.le E') : Env.ents E' v l := by
  obtain ⟨hn, hg, a, b, off, cap, hv, ha, hc⟩ := h
  exact ⟨hn, hg.le hE, a, b, off, cap, hv, ha, fun i hi => ⟨hE.cell (hc i hi).1, hE.cell (hc i hi).2⟩⟩
theorem Env.ints.le {E E' : Env} {v : Value} {l : List Int} (h : Env.ints E v l) (hE : E.le E') : Env.ints E' v l := by
  obtain ⟨hn, a, b, off, cap, hv, ha, hc⟩ := h
  exact ⟨hn, a, b, off, cap, hv, ha, fun i hi => hE.cell (hc i hi)⟩
theorem Env.steps.le {E E' : Env} {v : Value} {l : List Stp} (h : Env.steps E v l) (hE : E.le E') : Env.steps E' v l := by
  obtain ⟨hn, hg, a, b, off, cap, hv, ha, hc⟩ := h
  exact ⟨hn, fun s hs => ⟨(hg s hs).1.le hE, (hg s hs).2.le hE⟩, a, b, off, cap, hv, ha, fun i hi => ⟨hE.cell (hc i hi).1, hE.cell (hc i hi).2.1, hE.cell (hc i hi).2.2.1, hE.cell (hc i hi).2.2.2⟩⟩

/-- the cells of an entry that is read -/
theorem sat.ent2 {E : Env} {w : World} {A : Asn} (hs : sat E w A) {b off : Nat} {e : Ent} (h : E.cell? b off = some e.k ∧ E.cell? b (off + 1) = some (.int .i64 e.id)) :
    b < w.heap.size ∧ w.cell? ⟨b, off, none⟩ = some e.k ∧ w.cell? ⟨b, off + 1, none⟩ = some (.int .i64 e.id) :=
  ⟨hs.cell_lt h.1, hs.cell h.1, hs.cell h.2⟩

/-- an owned slice of entries becomes one that is read -/
theorem ents_freeze {E : Env} {w : World} {A : Asn} {v : Value} {es : List Ent} (hn : es.length ≤ 1000000) (hg : Env.goods E es) (h : sat E w (ents v es * A)) : ∃ E', E.le E' ∧ sat E' w A ∧ Env.ents E' v es := by
  rcases sat.ents h with ⟨rfl, rfl, hA⟩ | ⟨g, cap, cur, rfl, c1, c2, c3, c4, hp⟩
  · exact ⟨E, .refl E, hA, hn, hg, none, 0, 0, 0, rfl, .inl ⟨rfl, Lib.hid rfl⟩, fun i hi => absurd hi (Nat.not_lt_zero _)⟩
  · have hle := Env.le_add (.cells cur 35 (0, 0)) hp.not_ro
    refine ⟨E.add g (.cells cur 35 (0, 0)), hle, hp.freeze, hn, hg.le hle, some ⟨g, 0, none⟩, g, 0, cap, rfl, .inr rfl, fun i hi => ?_⟩
    have hc := entCells_get es i hi
    have cell : ∀ j u, (entCells es)[j]? = some u → (E.add g (.cells cur 35 (0, 0))).cell? g j = some u := by
      intro j u hj
      simp only [Env.cell?, Env.add, if_true]
      rw [← c4, List.getElem?_take] at hj
      split at hj
      · simpa using hj
      · cases hj
    rw [Nat.zero_add]
    exact ⟨cell _ _ hc.1, cell _ _ hc.2⟩

set_option maxHeartbeats 1000000 in
/-- the binary search of a key in entries that are read -/
theorem ksearchR (E : Env) (w : World) (A : Asn) (v k : Value) (l : List Val) (es : List Ent) (hs : sat E w A) (hv : Env.ents E v es) (ht : E.vals k l) (hn : es.length ≤ 10000)
    (hc : rises (es.map fun e => kcmp e.l l)) :
    Calls Try.prog 56 #[v, k, .func (.func 57) #[] #[]] w (Ret fun r w' => r = .tuple #[.int .i64 (pos (es.map fun e => kcmp e.l l)), .bool (found (es.map fun e => kcmp e.l l))] ∧ sat E w' A) := by
  refine ret_hide fun R hR => ?_
  replace hc := Lib.hid hc
  obtain ⟨_, hg, av, bv, ov, cap, rfl, ha, hcell⟩ := hv
  replace hcell := Lib.hid hcell
  rcases ha with ⟨rfl, he⟩ | rfl
  · have he' := he.out
    subst he'
    go_enter Try.func56, Try.ntmps56
    go_wp2
    go_loopw [9, 10] (fun lo hi wr => lo = .int .i64 0 ∧ hi = .int .i64 0 ∧ wr = w) (fun lo hi _ => 0)
    case atStart => exact ⟨rfl, rfl, rfl⟩
    case round =>
      obtain ⟨rfl, rfl, rfl⟩ := hrel
      have hR' := hR.out _ _ ⟨rfl, hs⟩
      clear hR
      go_wp2
      try go_ret
      exact hR'
  · go_enter Try.func56, Try.ntmps56
    go_wp2
    go_loopw [9, 10] (fun lo hi wr => ∃ a b : Nat, lo = .int .i64 a ∧ hi = .int .i64 b ∧ a ≤ b ∧ b ≤ es.length ∧ Hid (∀ j (h : j < es.length), j < a → kcmp es[j].l l < 0) ∧ Hid (∀ j (h : j < es.length), b ≤ j → 0 ≤ kcmp es[j].l l) ∧
      sat E wr A) (fun lo hi _ => (intOf hi).toNat - (intOf lo).toNat)
    case atStart => exact ⟨0, es.length, rfl, rfl, Nat.zero_le _, Nat.le_refl _, Lib.hid (fun j _ h => absurd h (Nat.not_lt_zero _)), Lib.hid (fun j h h' => by omega), hs⟩
    case round =>
      clear hs
      obtain ⟨a, b, rfl, rfl, hab, hb, h1, h2, hs⟩ := hrel
      have X1 := h1
      have X2 := h2
      clear h1 h2
      by_cases hlt : a < b
      · obtain ⟨m, hm, hma, hmb⟩ := mid a b hlt
        have hml : m < es.length := by omega
        have hek : E.vals es[m].k es[m].l := hg _ (List.getElem_mem _)
        obtain ⟨g0, g1, g2⟩ := sat.ent2 hs (hcell.out m hml)
        go_wp2_with fail
        refine (entKey E _ _ _ _ _ _ _ hs hek ht).mono ?_
        rintro e w3 ⟨_, rfl, rfl, hs3⟩
        clear g0 g1 g2
        by_cases hz : kcmp es[m].l l < 0
        · have X := search_low (f := fun e => kcmp e.l l) hc hml hz
          go_wp2
          go_roundw
          case rel => exact ⟨m + 1, b, by go_num, rfl, by omega, hb, X, X2, hs3⟩
          case measure => simp [intOf]; omega
        · have X := search_high (f := fun e => kcmp e.l l) hc hml hz
          go_wp2
          go_roundw
          case rel => exact ⟨a, m, rfl, rfl, by omega, by omega, X1, X, hs3⟩
          case measure => simp [intOf]; omega
      · have : a = b := by omega
        subst this
        have hpos := Lib.hid (search_done (f := fun e => kcmp e.l l) hb X1 X2)
        clear X1 X2 hab
        by_cases hlt2 : a < es.length
        · have hek : E.vals es[a].k es[a].l := hg _ (List.getElem_mem _)
          have hfd := Lib.hid (search_found hpos.out hlt2)
          obtain ⟨g0, g1, g2⟩ := sat.ent2 hs (hcell.out a hlt2)
          go_wp2_with fail
          refine (entKey E _ _ _ _ _ _ _ hs hek ht).mono ?_
          rintro e w3 ⟨_, rfl, rfl, hs3⟩
          clear g0 g1 g2
          have hR' := hR.out _ _ ⟨rfl, hs3⟩
          rw [hpos.out, hfd.out] at hR'
          clear hR
          go_wp2
          try go_ret
          exact hR'
        · have hfd := Lib.hid (search_none hpos.out (by omega))
          have hR' := hR.out _ _ ⟨rfl, hs⟩
          rw [hpos.out, hfd.out] at hR'
          clear hR
          go_wp2
          try go_ret
          exact hR'

end Go.Proofs.Ytmibiaakppkmmaa
