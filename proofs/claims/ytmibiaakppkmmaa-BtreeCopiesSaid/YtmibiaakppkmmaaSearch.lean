/- The binary search of an entry, and of a key. -/
import Derived.Test.YtmibiaakppkmmaaEnts
import Derived.Test.YtmibiaakppkmmaaDraw
namespace Go.Proofs.Ytmibiaakppkmmaa
open Go.RowKit Go.Sep
set_option linter.unusedVariables false
set_option linter.unusedSimpArgs false

theorem mid (a b : Nat) (h : a < b) : ∃ m : Nat, ((a : Int) + b) / 2 = m ∧ a ≤ m ∧ m < b := ⟨(a + b) / 2, by omega, by omega, by omega⟩

theorem search_done {es : List Ent} {f : Ent → Int} {a : Nat} (ha : a ≤ es.length) (h1 : Hid (∀ j (h : j < es.length), j < a → f es[j] < 0)) (h2 : Hid (∀ j (h : j < es.length), a ≤ j → 0 ≤ f es[j])) : pos (es.map f) = a := by
  refine pos_eq _ _ (by simpa using ha) (fun j hj x hx => ?_) (fun x hx => ?_)
  · simp only [List.getElem?_map, Option.map_eq_some_iff] at hx
    obtain ⟨e, he, rfl⟩ := hx
    obtain ⟨hl, rfl⟩ := List.getElem?_eq_some_iff.1 he
    exact h1.out j hl hj
  · simp only [List.getElem?_map, Option.map_eq_some_iff] at hx
    obtain ⟨e, he, rfl⟩ := hx
    obtain ⟨hl, rfl⟩ := List.getElem?_eq_some_iff.1 he
    have := h2.out a hl (Nat.le_refl _)
    omega

theorem search_low {es : List Ent} {f : Ent → Int} (hc : Hid (rises (es.map f))) {m : Nat} (hm : m < es.length) (h : f es[m] < 0) : Hid (∀ j (h : j < es.length), j < m + 1 → f es[j] < 0) :=
  fun j hj hjm => hc.out j m _ _ (by omega) (by simp [hj]) (by simp [hm]) h

theorem search_high {es : List Ent} {f : Ent → Int} (hc : Hid (rises (es.map f))) {m : Nat} (hm : m < es.length) (h : ¬ f es[m] < 0) : Hid (∀ j (h : j < es.length), m ≤ j → 0 ≤ f es[j]) :=
  fun j hj hjm => Int.not_lt.1 fun hlt => h (hc.out m j _ _ hjm (by simp [hm]) (by simp [hj]) hlt)

theorem search_found {es : List Ent} {f : Ent → Int} {a : Nat} (hp : pos (es.map f) = a) (h : a < es.length) : found (es.map f) = decide (f es[a] = 0) := by
  simp [found, hp, h]
  by_cases h0 : f es[a] = 0 <;> simp [h0]

theorem search_none {es : List Ent} {f : Ent → Int} {a : Nat} (hp : pos (es.map f) = a) (h : es.length ≤ a) : found (es.map f) = false := by
  simp [found, hp, h]

set_option maxHeartbeats 1000000 in
theorem bsearch (E : Env) (w : World) (A : Asn) (v k : Value) (id : Int) (l : List Val) (es : List Ent) (hs : sat E w (ents v es * A)) (hg : Env.goods E es) (ht : E.vals k l) (hn : es.length ≤ 10000)
    (hc : rises (es.map fun e => ecmp e.kv (l, id))) :
    Calls Try.prog 62 #[v, .agg #[k, .int .i64 id], .func (.func 37) #[] #[]] w (Ret fun r w' => r = .tuple #[.int .i64 (pos (es.map fun e => ecmp e.kv (l, id))), .bool (found (es.map fun e => ecmp e.kv (l, id)))] ∧ sat E w' (ents v es * A)) := by
  refine ret_hide fun R hR => ?_
  have hc := Lib.hid hc
  rcases sat.ents hs with ⟨rfl, rfl, hA⟩ | ⟨g, cap, cur, rfl, c1, c2, c3, c4, hp⟩
  · have hs2 := hs.alloc (.cells #[k, .int .i64 id] 35)
    go_enter Try.func62, Try.ntmps62
    go_wp2
    generalize w.alloc (.cells #[k, .int .i64 id] 35) = w1 at *
    generalize w.heap.size = n at *
    go_loopw [9, 10] (fun lo hi wr => lo = .int .i64 0 ∧ hi = .int .i64 0 ∧ wr = w1) (fun lo hi _ => 0)
    case atStart => exact ⟨rfl, rfl, rfl⟩
    case round =>
      obtain ⟨rfl, rfl, rfl⟩ := hrel
      go_wp2
      refine wp_draw_lit [(0,3),(1,3),(2,3),(3,3),(4,3),(5,3),(6,3),(7,3),(8,3),(9,0),(10,0),(11,2),(12,3),(13,3),(14,3),(15,3)] (fun w' => sat E w' (ents (.slice none 0 0) [] * A)) (by kernel_rfl) (by kernel_rfl) rfl hs2.drop.drew ?_
      iterate 5 (refine wpD_pure _ rfl rfl rfl ?_; apply Exists.intro; refine ⟨fun w' => ?_, ?_, ?_⟩; (go_wp2; exact ⟨rfl, rfl, rfl⟩); rfl)
      iterate 8 (refine wpD_pass rfl (by kernel_rfl) ?_; apply Exists.intro; refine ⟨fun w' => ?_, ?_, ?_⟩; (go_wp2; exact ⟨rfl, rfl, rfl⟩); rfl)
      iterate 3 (refine wpD_pure _ rfl rfl rfl ?_; apply Exists.intro; refine ⟨fun w' => ?_, ?_, ?_⟩; (go_wp2; exact ⟨rfl, rfl, rfl⟩); rfl)
      refine wpD_nil (fun w5 hK5 => ?_)
      have hR' := hR.out _ _ ⟨rfl, hK5⟩
      clear hR
      go_wp2
      try go_ret
      exact hR'
  · have c4 := Lib.hid c4
    clear hs
    go_enter Try.func62, Try.ntmps62
    go_wp2
    have hp := hp.alloc (.cells #[k, .int .i64 id] 35)
    generalize w.alloc (.cells #[k, .int .i64 id] 35) = w1 at *
    generalize w.heap.size = n at *
    go_loopw [9, 10] (fun lo hi wr => ∃ a b : Nat, lo = .int .i64 a ∧ hi = .int .i64 b ∧ a ≤ b ∧ b ≤ es.length ∧ Hid (∀ j (h : j < es.length), j < a → ecmp es[j].kv (l, id) < 0) ∧ Hid (∀ j (h : j < es.length), b ≤ j → 0 ≤ ecmp es[j].kv (l, id)) ∧
      sat E wr (pts n (.cells #[k, .int .i64 id] 35 (0, 0)) * (pts g (.cells cur 35 (0, 0)) * A))) (fun lo hi _ => (intOf hi).toNat - (intOf lo).toNat)
    case atStart => exact ⟨0, es.length, rfl, rfl, Nat.zero_le _, Nat.le_refl _, Lib.hid (fun j _ h => absurd h (Nat.not_lt_zero _)), Lib.hid (fun j h h' => by omega), hp⟩
    case round =>
      obtain ⟨a, b, rfl, rfl, hab, hb, h1, h2, hs⟩ := hrel
      clear hp
      have X1 := h1
      have X2 := h2
      clear h1 h2
      by_cases hlt : a < b
      · obtain ⟨m, hm, hma, hmb⟩ := mid a b hlt
        have hml : m < es.length := by omega
        have hek : E.vals es[m].k es[m].l := hg _ (List.getElem_mem _)
        go_wp2
        try rw [hm]
        clear hm
        refine wp_draw_lit [(0,3),(1,3),(2,3),(3,3),(4,0),(5,0),(6,2),(7,3)] (fun w' => sat E w' (pts n (.cells #[k, .int .i64 id] 35 (0, 0)) * (pts g (.cells cur 35 (0, 0)) * A))) (by kernel_rfl) (by kernel_rfl) rfl hs.drew ?_
        iterate 4 (refine wpD_pure _ rfl rfl rfl ?_; apply Exists.intro; refine ⟨fun w' => ?_, ?_, ?_⟩; (go_wp2; exact ⟨rfl, rfl, rfl⟩); rfl)
        iterate 2 (refine wpD_reads _ rfl rfl rfl ?_; apply Exists.intro; refine ⟨fun w' hK => ?_, ?_, ?_⟩; (obtain ⟨g0, g1, g2, g3, g4⟩ := ent_cell hK.drop.block c4.out m hml; obtain ⟨f0, f1, f2, f3, f4⟩ := entFacts w' hK; go_wp2; exact ⟨rfl, rfl, rfl⟩); rfl)
        refine wpD_does (by decide) rfl rfl (fun Nx hNx w' hK => ?_)
        go_wp2_with fail
        refine (entCompare E _ _ _ _ _ _ _ _ hK hek ht).mono ?_
        rintro e w3 ⟨_, rfl, rfl, hs3⟩
        go_wp2_with fail
        refine ⟨rfl, (fun x => sat E x _), hs3, fun h => (by cases h), hNx _ _ ?_⟩
        clear hs3 hK hNx
        iterate 1 (refine wpD_pure _ rfl rfl rfl ?_; apply Exists.intro; refine ⟨fun w' => ?_, ?_, ?_⟩; (go_wp2; exact ⟨rfl, rfl, rfl⟩); rfl)
        refine wpD_nil (fun w5 hK5 => ?_)
        by_cases hz : ecmp es[m].kv (l, id) < 0
        · have X := search_low (f := fun e => ecmp e.kv (l, id)) hc hml hz
          have hz : ecmp (es[m].l, es[m].id) (l, id) < 0 := hz
          go_wp2
          go_roundw
          case rel => exact ⟨m + 1, b, by go_num, rfl, by omega, hb, X, X2, hK5⟩
          case measure => simp [intOf]; omega
        · have X := search_high (f := fun e => ecmp e.kv (l, id)) hc hml hz
          have hz : ¬ ecmp (es[m].l, es[m].id) (l, id) < 0 := hz
          go_wp2
          go_roundw
          case rel => exact ⟨a, m, rfl, rfl, by omega, by omega, X1, X, hK5⟩
          case measure => simp [intOf]; omega
      · have : a = b := by omega
        subst this
        have hpos := Lib.hid (search_done (f := fun e => ecmp e.kv (l, id)) hb X1 X2)
        clear X1 X2 hab
        by_cases hlt2 : a < es.length
        · have hek : E.vals es[a].k es[a].l := hg _ (List.getElem_mem _)
          have hfd := Lib.hid (search_found hpos.out hlt2)
          go_wp2
          refine wp_draw_lit [(0,3),(1,3),(2,3),(3,3),(4,3),(5,3),(6,3),(7,3),(8,3),(9,0),(10,0),(11,2),(12,3),(13,3),(14,3),(15,3)] (fun w' => sat E w' (pts n (.cells #[k, .int .i64 id] 35 (0, 0)) * (pts g (.cells cur 35 (0, 0)) * A))) (by kernel_rfl) (by kernel_rfl) rfl hs.drew ?_
          iterate 9 (refine wpD_pure _ rfl rfl rfl ?_; apply Exists.intro; refine ⟨fun w' => ?_, ?_, ?_⟩; (go_wp2; exact ⟨rfl, rfl, rfl⟩); rfl)
          iterate 2 (refine wpD_reads _ rfl rfl rfl ?_; apply Exists.intro; refine ⟨fun w' hK => ?_, ?_, ?_⟩; (obtain ⟨g0, g1, g2, g3, g4⟩ := ent_cell hK.drop.block c4.out a hlt2; obtain ⟨f0, f1, f2, f3, f4⟩ := entFacts w' hK; go_wp2; exact ⟨rfl, rfl, rfl⟩); rfl)
          refine wpD_does (by decide) rfl rfl (fun Nx hNx w' hK => ?_)
          go_wp2_with fail
          refine (entCompare E _ _ _ _ _ _ _ _ hK hek ht).mono ?_
          rintro e w3 ⟨_, rfl, rfl, hs3⟩
          go_wp2_with fail
          refine ⟨rfl, (fun x => sat E x _), hs3, fun h => (by cases h), hNx _ _ ?_⟩
          clear hs3 hK hNx
          iterate 4 (refine wpD_pure _ rfl rfl rfl ?_; apply Exists.intro; refine ⟨fun w' => ?_, ?_, ?_⟩; (go_wp2; exact ⟨rfl, rfl, rfl⟩); rfl)
          refine wpD_nil (fun w5 hK5 => ?_)
          have hR' := hR.out _ _ ⟨rfl, (hK5.drop.mk_row (entCells_length es) c1 c2 c3 c4.out)⟩
          rw [hpos.out, hfd.out] at hR'
          clear hR
          go_wp2
          try go_ret
          exact hR'
        · have hfd := Lib.hid (search_none hpos.out (by omega))
          go_wp2
          refine wp_draw_lit [(0,3),(1,3),(2,3),(3,3),(4,3),(5,3),(6,3),(7,3),(8,3),(9,0),(10,0),(11,2),(12,3),(13,3),(14,3),(15,3)] (fun w' => sat E w' (pts n (.cells #[k, .int .i64 id] 35 (0, 0)) * (pts g (.cells cur 35 (0, 0)) * A))) (by kernel_rfl) (by kernel_rfl) rfl hs.drew ?_
          iterate 5 (refine wpD_pure _ rfl rfl rfl ?_; apply Exists.intro; refine ⟨fun w' => ?_, ?_, ?_⟩; (go_wp2; exact ⟨rfl, rfl, rfl⟩); rfl)
          iterate 8 (refine wpD_pass rfl (by kernel_rfl) ?_; apply Exists.intro; refine ⟨fun w' => ?_, ?_, ?_⟩; (go_wp2; exact ⟨rfl, rfl, rfl⟩); rfl)
          iterate 3 (refine wpD_pure _ rfl rfl rfl ?_; apply Exists.intro; refine ⟨fun w' => ?_, ?_, ?_⟩; (go_wp2; exact ⟨rfl, rfl, rfl⟩); rfl)
          refine wpD_nil (fun w5 hK5 => ?_)
          have hR' := hR.out _ _ ⟨rfl, (hK5.drop.mk_row (entCells_length es) c1 c2 c3 c4.out)⟩
          rw [hpos.out, hfd.out] at hR'
          clear hR
          go_wp2
          try go_ret
          exact hR'

set_option maxHeartbeats 1000000 in
theorem ksearch (E : Env) (w : World) (A : Asn) (v k : Value) (l : List Val) (es : List Ent) (hs : sat E w (ents v es * A)) (hg : Env.goods E es) (ht : E.vals k l) (hn : es.length ≤ 10000)
    (hc : rises (es.map fun e => kcmp e.l l)) :
    Calls Try.prog 56 #[v, k, .func (.func 57) #[] #[]] w (Ret fun r w' => r = .tuple #[.int .i64 (pos (es.map fun e => kcmp e.l l)), .bool (found (es.map fun e => kcmp e.l l))] ∧ sat E w' (ents v es * A)) := by
  refine ret_hide fun R hR => ?_
  have hc := Lib.hid hc
  rcases sat.ents hs with ⟨rfl, rfl, hA⟩ | ⟨g, cap, cur, rfl, c1, c2, c3, c4, hp⟩
  · go_enter Try.func56, Try.ntmps56
    go_wp2
    go_loopw [9, 10] (fun lo hi wr => lo = .int .i64 0 ∧ hi = .int .i64 0 ∧ wr = w) (fun lo hi _ => 0)
    case atStart => exact ⟨rfl, rfl, rfl⟩
    case round =>
      obtain ⟨rfl, rfl, rfl⟩ := hrel
      have hR' := hR.out _ _ ⟨rfl, hs⟩
      clear hR
      go_wp2
      try go_ret
      exact hR'
  · have c4 := Lib.hid c4
    clear hs
    go_enter Try.func56, Try.ntmps56
    go_wp2
    go_loopw [9, 10] (fun lo hi wr => ∃ a b : Nat, lo = .int .i64 a ∧ hi = .int .i64 b ∧ a ≤ b ∧ b ≤ es.length ∧ Hid (∀ j (h : j < es.length), j < a → kcmp es[j].l l < 0) ∧ Hid (∀ j (h : j < es.length), b ≤ j → 0 ≤ kcmp es[j].l l) ∧
      sat E wr (pts g (.cells cur 35 (0, 0)) * A)) (fun lo hi _ => (intOf hi).toNat - (intOf lo).toNat)
    case atStart => exact ⟨0, es.length, rfl, rfl, Nat.zero_le _, Nat.le_refl _, Lib.hid (fun j _ h => absurd h (Nat.not_lt_zero _)), Lib.hid (fun j h h' => by omega), hp⟩
    case round =>
      obtain ⟨a, b, rfl, rfl, hab, hb, h1, h2, hs⟩ := hrel
      clear hp
      have X1 := h1
      have X2 := h2
      clear h1 h2
      by_cases hlt : a < b
      · obtain ⟨m, hm, hma, hmb⟩ := mid a b hlt
        have hml : m < es.length := by omega
        have hek : E.vals es[m].k es[m].l := hg _ (List.getElem_mem _)
        obtain ⟨g0, g1, g2, g3, g4⟩ := ent_cell hs.block c4.out m hml
        go_wp2_with fail
        refine (entKey E _ _ _ _ _ _ _ hs hek ht).mono ?_
        rintro e w3 ⟨_, rfl, rfl, hs3⟩
        clear g0 g1 g2 g3 g4
        by_cases hz : kcmp es[m].l l < 0
        · have X := search_low (f := fun e => kcmp e.l l) hc hml hz
          go_wp2
          go_roundw
          case rel => exact ⟨m + 1, b, by go_num, rfl, by omega, hb, X, X2, hs3⟩
          case measure => simp [intOf]; omega
        · have X := search_high (f := fun e => kcmp e.l l) hc hml hz
          go_wp2
          go_roundw
          case rel => exact ⟨a, m, rfl, rfl, by omega, by omega, X1, X, hs3⟩
          case measure => simp [intOf]; omega
      · have : a = b := by omega
        subst this
        have hpos := Lib.hid (search_done (f := fun e => kcmp e.l l) hb X1 X2)
        clear X1 X2 hab
        by_cases hlt2 : a < es.length
        · have hek : E.vals es[a].k es[a].l := hg _ (List.getElem_mem _)
          have hfd := Lib.hid (search_found hpos.out hlt2)
          obtain ⟨g0, g1, g2, g3, g4⟩ := ent_cell hs.block c4.out a hlt2
          go_wp2_with fail
          refine (entKey E _ _ _ _ _ _ _ hs hek ht).mono ?_
          rintro e w3 ⟨_, rfl, rfl, hs3⟩
          clear g0 g1 g2 g3 g4
          have hR' := hR.out _ _ ⟨rfl, (hs3.mk_row (entCells_length es) c1 c2 c3 c4.out)⟩
          rw [hpos.out, hfd.out] at hR'
          clear hR
          go_wp2
          try go_ret
          exact hR'
        · have hfd := Lib.hid (search_none hpos.out (by omega))
          have hR' := hR.out _ _ ⟨rfl, (hs.mk_row (entCells_length es) c1 c2 c3 c4.out)⟩
          rw [hpos.out, hfd.out] at hR'
          clear hR
          go_wp2
          try go_ret
          exact hR'

end Go.Proofs.Ytmibiaakppkmmaa
