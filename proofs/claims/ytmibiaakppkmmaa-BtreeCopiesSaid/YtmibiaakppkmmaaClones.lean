/- Cloning keys and entries. -/
import Derived.Test.YtmibiaakppkmmaaProg
import Derived.Test.YtmibiaakppkmmaaCmps
import Derived.Test.YtmibiaakppkmmaaOwn
import Derived.WalkKit
import Derived.BigQuiet
import Derived.WalkSpells
import Derived.Lib.Hide
namespace Go.Proofs.Ytmibiaakppkmmaa
open Go.RowKit Go.Sep
set_option linter.unusedVariables false
set_option linter.unusedSimpArgs false

theorem el_of {P : Program} {t e : TypeId} {z : Value} {sz bytes : Nat} (ht : P.underlying t = some (.slice e)) (hi : (P.info? e).map (fun i => (i.zero, i.size, i.bytes)) = some (some z, sz, bytes)) (hz : z.cells.size = sz) (hp : 0 < sz) :
    ∃ i, Elem P t e i z sz bytes := by
  obtain ⟨i, h1, h2, h3, h4⟩ := info_parts hi
  exact ⟨i, ht, h1, h2, h3, h4, hz, hp⟩

def zEnt : Value := .agg #[.slice none 0 0, .int .i64 0]
def zVal : Value := .agg #[.int .u8 0, .int .i64 0, .int .i64 0, .string ⟨#[]⟩]

theorem elVal : ∃ i, Elem Try.prog 23 52 i zVal 4 40 := el_of Try.underlying23 (by kernel_rfl) rfl (by decide)
theorem elEnt : ∃ i, Elem Try.prog 29 35 i zEnt 2 32 := el_of Try.underlying29 (by kernel_rfl) rfl (by decide)
theorem elNode : ∃ i, Elem Try.prog 62 55 i (.pointer none) 1 8 := el_of Try.underlying62 (by kernel_rfl) rfl (by decide)
theorem elInt : ∃ i, Elem Try.prog 32 3 i (.int .i64 0) 1 8 := el_of Try.underlying32 (by kernel_rfl) rfl (by decide)

def valCells (l : List Val) : List Value := l.flatMap fun v => v.cells.toList

theorem valCells_length (l : List Val) : (valCells l).length = l.length * 4 := by
  induction l with
  | nil => rfl
  | cons a l ih => simp only [valCells, List.flatMap_cons, List.length_append, List.length_cons] at *; simp [Val.cells] at *; omega

theorem valCells_get (l : List Val) (i : Nat) (h : i < l.length) : (valCells l)[i * 4]? = some (.int .u8 l[i].kind) ∧ (valCells l)[i * 4 + 1]? = some (.int .i64 l[i].n) ∧
    (valCells l)[i * 4 + 2]? = some (.int .i64 l[i].hi) ∧ (valCells l)[i * 4 + 3]? = some (.string ⟨l[i].t.toArray⟩) := by
  induction l generalizing i with
  | nil => exact absurd h (Nat.not_lt_zero _)
  | cons a l ih =>
    cases i with
    | zero => simp [valCells, Val.cells]
    | succ i =>
      have := ih i (by simpa using h)
      simp only [valCells, List.flatMap_cons] at this ⊢
      have e : ∀ j, (a.cells.toList ++ List.flatMap (fun v => v.cells.toList) l)[(i + 1) * 4 + j]? = (List.flatMap (fun v => v.cells.toList) l)[i * 4 + j]? := by
        intro j
        rw [List.getElem?_append_right (by simp [Val.cells]; omega)]
        congr 1
        simp [Val.cells]; omega
      have e0 := e 0
      simp only [Nat.add_zero] at e0
      simp only [e0, e, List.getElem_cons_succ]
      exact this

theorem valCells_at (l : List Val) (j : Nat) (u : Value) (h : (valCells l)[j]? = some u) : ∃ i r, ∃ hi : i < l.length, j = i * 4 + r ∧ r < 4 := by
  have hj : j < (valCells l).length := (List.getElem?_eq_some_iff.1 h).1
  rw [valCells_length] at hj
  exact ⟨j / 4, j % 4, by omega, by omega, by omega⟩

/-- a key that is read, as a source -/
theorem vals_firsts {E : Env} {w : World} {A : Asn} (hs : sat E w A) {v : Value} {l : List Val} (h : E.vals v l) : ∃ a cap, v = .slice a l.length cap ∧ firsts Try.prog w 4 l.length v (valCells l) := by
  obtain ⟨hn, a, b, off, cap, rfl, ha, hc⟩ := h
  refine ⟨a, cap, rfl, ?_⟩
  rcases ha with hl | rfl
  · have := hl.out; subst this; exact firsts_zero
  · refine firsts_some (valCells_length l) fun j x hj => ?_
    obtain ⟨i, r, hi, rfl, hr⟩ := valCells_at l j x hj
    obtain ⟨_, c0, c1, c2, c3⟩ := hs.val (hc i hi)
    obtain ⟨d0, d1, d2, d3⟩ := valCells_get l i hi
    rw [add_lit, show off + (i * 4 + r) = off + i * 4 + r by omega]
    match r, hr with
    | 0, _ => rw [Nat.add_zero] at hj ⊢; rw [d0] at hj; rw [← hj]; exact c0
    | 1, _ => rw [d1] at hj; rw [← hj]; exact c1
    | 2, _ => rw [d2] at hj; rw [← hj]; exact c2
    | 3, _ => rw [d3] at hj; rw [← hj]; exact c3

theorem valCells_one (l : List Val) : ∀ u ∈ valCells l, u.oneCell' = true := by
  intro u hu
  simp only [valCells, List.mem_flatMap] at hu
  obtain ⟨v, _, h⟩ := hu
  simp [Val.cells] at h
  rcases h with rfl | rfl | rfl | rfl <;> rfl

/-- a slice of values that is owned becomes one that is read -/
theorem vals_freeze {E : Env} {w : World} {A : Asn} {v : Value} {l : List Val} (hn : l.length ≤ 140737488355328) (h : sat E w (row 52 4 v l.length (valCells l) * A)) : ∃ E', E.le E' ∧ sat E' w A ∧ E'.vals v l := by
  obtain ⟨hl, ⟨rfl, h0, hA⟩ | ⟨g, cap, cur, rfl, c1, c2, c3, c4, hp⟩⟩ := h.row
  · exact ⟨E, .refl E, hA, hn, none, 0, 0, 0, by rw [h0], .inl (Lib.hid (List.eq_nil_of_length_eq_zero h0)), fun i hi => by omega⟩
  · refine ⟨E.add g (.cells cur 52 (0, 0)), Env.le_add _ hp.not_ro, hp.freeze, hn, some ⟨g, 0, none⟩, g, 0, cap, rfl, .inr rfl, fun i hi => ?_⟩
    obtain ⟨d0, d1, d2, d3⟩ := valCells_get l i hi
    have cell : ∀ j u, (valCells l)[j]? = some u → (E.add g (.cells cur 52 (0, 0))).cell? g j = some u := by
      intro j u hj
      simp only [Env.cell?, Env.add, if_true]
      rw [← c4, List.getElem?_take] at hj
      split at hj
      · simpa using hj
      · cases hj
    rw [Nat.zero_add]
    exact ⟨cell _ _ d0, cell _ _ d1, cell _ _ d2, cell _ _ d3⟩

set_option maxHeartbeats 1000000 in
theorem cloneVals (E : Env) (w : World) (A : Asn) (v : Value) (l : List Val) (hs : sat E w A) (h : E.vals v l) (hn : l.length ≤ 1000000) :
    Calls Try.prog 44 #[v] w (Ret fun v' w' => ∃ E', E.le E' ∧ sat E' w' A ∧ E'.vals v' l) := by
  obtain ⟨i, el⟩ := elVal
  have hh := h
  obtain ⟨hn1, a1, b1, o1, cap1, rfl, ha1, h1⟩ := h
  have q := fun (W : World) a n c => Lib.run_eql_slice_nil (P := Try.prog) W 23 52 a n c 0 0 Try.underlying23
  rcases a1 with _ | x1
  · have hl1 : Hid (l = []) := by
      rcases ha1 with hl1 | h
      · exact hl1
      · cases h
    clear ha1 h1
    go_enter Try.func44, Try.ntmps44
    go_wp2
    go_ret
    exact ⟨_, rfl, E, .refl E, hs, by have := hl1.out; subst this; exact ⟨by simp, none, 0, 0, 0, rfl, .inl (Lib.hid rfl), fun i hi => absurd hi (Nat.not_lt_zero _)⟩⟩
  · clear ha1
    obtain ⟨a, cap, hv, hf⟩ := vals_firsts hs hh
    injection hv with e1 e2 e3
    subst e1; subst e3
    have hs1 := (hs.alloc (.cells #[] 52)).mk_new (sz := 4) (n := 0) rfl (Nat.zero_le _)
    obtain ⟨v', w', hr, hs2, _⟩ := append_row el 23 hs1 _ l.length cap1 (valCells l) (valCells_length l) (hf.alloc _) (valCells_one l) (by unfold maxLen; omega) (by omega)
    simp only [Nat.zero_add, List.nil_append] at hs2
    obtain ⟨E', h1', h2', h3'⟩ := vals_freeze hn1 hs2
    clear hs2 hs1 hf h1 hh el
    go_enter Try.func44, Try.ntmps44
    go_wp2_with (at_builtin; refine Lib.wpList_append_run _ rfl _ _ _ _ rfl _ _ rfl rfl _ _ hr ?_)
    go_ret
    exact ⟨_, rfl, E', h1', h2', h3'⟩


theorem entFacts {E : Env} {A : Asn} {n : Nat} {k x : Value} : ∀ w' : World, sat E w' (pts n (.cells #[k, x] 35 (0, 0)) * A) → n < w'.heap.size ∧ w'.cell? ⟨n, 0, none⟩ = some k ∧ w'.cell? ⟨n, 1, none⟩ = some x ∧ w'.frozen? ⟨n, 0, none⟩ = false ∧ w'.frozen? ⟨n, 1, none⟩ = false := by
  intro w' h
  have hb := h.block
  refine ⟨h.lt, ?_⟩
  simp [cell_of_block hb, frozen_of_block hb]

set_option maxHeartbeats 1000000 in
theorem cloneEnt (E : Env) (w : World) (A : Asn) (k : Value) (id : Int) (l : List Val) (hs : sat E w A) (h : E.vals k l) (hn : l.length ≤ 1000000) :
    Calls Try.prog 29 #[.agg #[k, .int .i64 id]] w (Ret fun v' w' => ∃ k' E', v' = .agg #[k', .int .i64 id] ∧ E.le E' ∧ sat E' w' A ∧ E'.vals k' l) := by
  go_enter Try.func29, Try.ntmps29
  go_wp2
  have hs2 := (hs.alloc (.cells #[k, .int .i64 id] 35)).alloc (.cells #[.slice none 0 0, .int .i64 0] 35)
  rw [World.size_alloc] at hs2
  generalize (w.alloc (.cells #[k, .int .i64 id] 35)).alloc (.cells #[.slice none 0 0, .int .i64 0] 35) = w2 at *
  generalize w.heap.size = n at *
  refine wp_draw_lit [(0,0),(1,0),(3,0),(4,0),(2,1),(5,0),(6,2)] (fun w' => sat E w' (pts (n + 1) (.cells #[.slice none 0 0, .int .i64 0] 35) * (pts n (.cells #[k, .int .i64 id] 35) * A))) (by kernel_rfl) (by kernel_rfl) rfl hs2.drew ?_
  iterate 4 (refine wpD_reads _ rfl rfl rfl ?_; apply Exists.intro; refine ⟨fun w' hK => ?_, ?_, ?_⟩; (obtain ⟨f0, f1, f2, f3, f4⟩ := entFacts w' (hK.to (sep_left_comm _ _ _)); go_wp2; exact ⟨rfl, rfl, rfl⟩); rfl)
  refine wpD_does (by decide) rfl rfl (fun Nx hNx w' hK => ?_)
  go_wp2_with fail
  refine (cloneVals E _ _ _ l hK h hn).mono ?_
  rintro e w3 ⟨k', rfl, E', hE, hs3, hk'⟩
  obtain ⟨ka, kc, rfl⟩ := hk'.slice
  go_wp2_with fail
  refine ⟨rfl, (fun x => sat E' x _), hs3, fun _ x hx => hx.le hE, hNx _ _ ?_⟩
  clear hs3 hK hNx
  iterate 1 (refine wpD_reads _ rfl rfl rfl ?_; apply Exists.intro; refine ⟨fun w' hK => ?_, ?_, ?_⟩; (go_wp2; exact ⟨rfl, rfl, rfl⟩); rfl)
  refine wpD_does (by decide) rfl rfl (fun Nx hNx w4 hK => ?_)
  obtain ⟨f0, f1, f2, f3, f4⟩ := entFacts w4 hK
  go_wp2_with fail
  have hs5 := (hK.setCell (off := 0) (.slice ka l.length kc)).setCell (off := 1) (.int .i64 id)
  refine ⟨rfl, (fun x => sat E' x _), hs5, fun h => (by cases h), hNx _ _ ?_⟩
  refine wpD_nil (fun w6 hK6 => ?_)
  have hb := hK6.block
  have f1 : w6.cell? ⟨n + 1, 0, none⟩ = some (.slice ka l.length kc) := by rw [cell_of_block hb]; rfl
  have f2 : w6.cell? ⟨n + 1, 1, none⟩ = some (.int .i64 id) := by rw [cell_of_block hb]; rfl
  go_wp2
  refine bodyPost_ret (v := .agg #[.slice ka l.length kc, .int .i64 id]) (by simp [results, Try.results29, go_sem, f1, f2]) rfl ⟨_, rfl, _, E', rfl, hE, hK6.drop.drop, hk'⟩

end Go.Proofs.Ytmibiaakppkmmaa
