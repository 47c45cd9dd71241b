/- The tree; whether an entry is there. -/
import Derived.Test.YtmibiaakppkmmaaPut
namespace Go.Proofs.Ytmibiaakppkmmaa
open Go.RowKit Go.Sep
set_option linter.unusedVariables false
set_option linter.unusedSimpArgs false

theorem exists_least {p : Nat → Prop} (h : ∃ n, p n) : ∃ n, p n ∧ ∀ m, p m → n ≤ m := by
  obtain ⟨n, hn⟩ := h
  induction n using Nat.strongRecOn with
  | _ n ih =>
    by_cases hx : ∃ m, m < n ∧ p m
    · obtain ⟨m, hm, hp⟩ := hx
      exact ih m hm hp
    · exact ⟨n, hn, fun m hm => Nat.le_of_not_lt fun hlt => hx ⟨m, hlt, hm⟩⟩

/-- the least number of which something is so -/
noncomputable def least (p : Nat → Prop) : Nat := open Classical in if h : ∃ n, p n then Classical.choose (exists_least h) else 0
theorem least_spec {p : Nat → Prop} (h : ∃ n, p n) : p (least p) := by
  unfold least; rw [dif_pos h]; exact (Classical.choose_spec (exists_least h)).1
theorem least_le {p : Nat → Prop} {n : Nat} (h : p n) : least p ≤ n := by
  unfold least; rw [dif_pos ⟨n, h⟩]; exact (Classical.choose_spec (exists_least ⟨n, h⟩)).2 n h

/-- the entry is there -/
def inn (e : Ent) (l : List Ent) : Prop := ∃ x ∈ l, x.kv = e.kv

theorem inn_append {e : Ent} {a b : List Ent} : inn e (a ++ b) ↔ inn e a ∨ inn e b := by
  simp [inn, or_and_right, exists_or]

theorem not_inn_lt {e : Ent} {l : List Ent} (h : ∀ x ∈ l, lt x e) : ¬ inn e l := by
  rintro ⟨x, hx, hk⟩
  have := h x hx
  unfold lt at this
  rw [hk] at this
  exact Cmp.entry.lt_irrefl _ this

theorem not_inn_gt {e : Ent} {l : List Ent} (h : ∀ x ∈ l, lt e x) : ¬ inn e l := by
  rintro ⟨x, hx, hk⟩
  have := h x hx
  unfold lt at this
  rw [hk] at this
  exact Cmp.entry.lt_irrefl _ this

/-- a node with kids, at the place of an entry that it has not itself -/
theorem split_inner' {d : Nat} {t : T (d + 1)} {e : Ent} (hok : ok (d + 1) t) (hso : sorted (flat (d + 1) t)) (hf : found (t.es.map fun x => ecmp x.kv e.kv) = false) :
    ∃ ea eb ka q tq kb, t = mk (ea ++ eb) (ka ++ (q, tq) :: kb) ∧ ka.length = ea.length ∧ kb.length = eb.length ∧ ea.length = pos (t.es.map fun x => ecmp x.kv e.kv) ∧ (∀ x ∈ heads (ka.map fun k => flat d k.2) ea, lt x e) ∧ (∀ x ∈ tails eb (kb.map fun k => flat d k.2), lt e x) := by
  have hsub := es_sub (d + 1) t hok
  obtain ⟨ea, eb, hes, hea, ha, hb⟩ := pos_split (sorted_sub hso hsub) e
  have hb : ∀ x ∈ eb, lt e x := by
    rcases hb with ⟨h, _⟩ | ⟨_, hb⟩
    · rw [hf] at h; cases h
    · exact hb
  have hlk : t.ks.length = t.es.length + 1 := hok.1
  have hi : ea.length < t.ks.length := by rw [hlk, hes]; simp; omega
  have hks : t.ks = t.ks.take ea.length ++ t.ks[ea.length] :: t.ks.drop (ea.length + 1) := by rw [← List.drop_eq_getElem_cons, List.take_append_drop]
  have hk1 : (t.ks.take ea.length).length = ea.length := by rw [List.length_take]; omega
  have hk2 : (t.ks.drop (ea.length + 1)).length = eb.length := by rw [List.length_drop, hlk, hes]; simp <;> omega
  have ht : t = mk (ea ++ eb) (t.ks.take ea.length ++ (t.ks[ea.length].1, t.ks[ea.length].2) :: t.ks.drop (ea.length + 1)) := by
    show mk t.es t.ks = mk (ea ++ eb) (t.ks.take ea.length ++ t.ks[ea.length] :: t.ks.drop (ea.length + 1))
    rw [← hks, hes]
  have hfl := flat_split (eb := eb) (kb := t.ks.drop (ea.length + 1)) (k := (t.ks[ea.length].1, t.ks[ea.length].2)) hk1
  rw [← ht] at hfl
  rw [hfl] at hso
  obtain ⟨s1, s2, _⟩ := sorted_append.1 hso
  exact ⟨ea, eb, _, _, _, _, ht, hk1, hk2, hea, heads_lt _ _ (by rw [List.length_map]; exact hk1) s1 ha, tails_gt _ _ (by rw [List.length_map]; exact hk2) (sorted_append.1 s2).2.1 hb⟩

theorem found_inn {es : List Ent} {e : Ent} (hso : sorted es) : found (es.map fun x => ecmp x.kv e.kv) = true ↔ inn e es := by
  obtain ⟨ea, eb, rfl, _, ha, hb⟩ := pos_split hso e
  rcases hb with ⟨h, y, eb', rfl, hy, _⟩ | ⟨h, hb⟩
  · exact Iff.intro (fun _ => ⟨y, by simp, hy⟩) (fun _ => h)
  · rw [h]
    refine Iff.intro (fun h => by cases h) (fun hi => ?_)
    rcases inn_append.1 hi with hi | hi
    · exact absurd hi (not_inn_lt ha)
    · exact absurd hi (not_inn_gt hb)

/-- the block of a tree -/
def hd (r : Nat) (v : Value) (n : Nat) : Asn := pts r (.cells #[v, .int .i64 n] 57 (0, 0))

/-- a tree: how high, and its entries -/
def tree (r : Nat) : Nat → List Ent → Asn
  | 0, l => pur (l = []) * hd r (.pointer none) 0
  | d + 1, l => ex fun p => ex fun t : T d => pur (flat d t = l ∧ ok d t ∧ 1 ≤ t.es.length ∧ t.es.length ≤ 7) * (hd r (ptr p) l.length * node d p t)

theorem sat_tree_zero {E : Env} {w : World} {A : Asn} {r : Nat} {l : List Ent} : sat E w (tree r 0 l * A) ↔ l = [] ∧ sat E w (hd r (.pointer none) 0 * A) := by
  rw [tree, sep_assoc, sat_pur]
theorem sat_tree_succ {E : Env} {w : World} {A : Asn} {r d : Nat} {l : List Ent} : sat E w (tree r (d + 1) l * A) ↔ ∃ p, ∃ t : T d, flat d t = l ∧ ok d t ∧ 1 ≤ t.es.length ∧ t.es.length ≤ 7 ∧ sat E w (hd r (ptr p) l.length * (node d p t * A)) := by
  rw [tree, sat_ex_sep]
  refine exists_congr fun p => ?_
  rw [sat_ex_sep]
  refine exists_congr fun t => ?_
  rw [sep_assoc, sat_pur, sep_assoc]
  simp [and_assoc]

theorem hd_cells {E : Env} {w : World} {A : Asn} {r n : Nat} {v : Value} (h : sat E w (hd r v n * A)) : r < w.heap.size ∧ w.cell? ⟨r, 0, none⟩ = some v ∧ w.cell? ⟨r, 1, none⟩ = some (.int .i64 n) ∧ w.frozen? ⟨r, 0, none⟩ = false ∧ w.frozen? ⟨r, 1, none⟩ = false := by
  have hb := sat.block h
  exact ⟨sat.lt h, by rw [cell_of_block hb]; rfl, by rw [cell_of_block hb]; rfl, frozen_of_block hb, frozen_of_block hb⟩
theorem hd_set0 {E : Env} {w : World} {A : Asn} {r n : Nat} {v : Value} (u : Value) (h : sat E w (hd r v n * A)) : sat E (w.setCell ⟨r, 0, none⟩ u) (hd r u n * A) := sat.setCell (off := 0) u h
theorem hd_set1 {E : Env} {w : World} {A : Asn} {r n : Nat} {v : Value} (m : Nat) (h : sat E w (hd r v n * A)) : sat E (w.setCell ⟨r, 1, none⟩ (.int .i64 m)) (hd r v m * A) := sat.setCell (off := 1) (.int .i64 m) h

/-- what a search on its way down knows -/
def Way (E : Env) (X A : Asn) (e : Ent) (b : Bool) (d : Nat) (v : Value) (w : World) : Prop :=
  ∃ p, ∃ t : T d, ∃ B, v = .pointer (some ⟨p, 0, none⟩) ∧ sat E w (node d p t * (A * B)) ∧ (∀ w', sat E w' (node d p t * B) → sat E w' X) ∧ ok d t ∧ sorted (flat d t) ∧ Env.goods E (flat d t) ∧ t.es.length ≤ 7 ∧ (b = true ↔ inn e (flat d t))

set_option maxRecDepth 10000 in
set_option maxHeartbeats 2000000 in
theorem has (E : Env) (w : World) (A : Asn) (r h : Nat) (l : List Ent) (e : Ent) (b : Bool) (hs : sat E w (tree r h l * A)) (hv : E.vals e.k e.l) (hg : Env.goods E l) (hso : sorted l) (hb : b = true ↔ inn e l) :
    Calls Try.prog 31 #[ptr r, .agg #[e.k, .int .i64 e.id]] w (Ret fun v w' => v = .bool b ∧ sat E w' (tree r h l * A)) := by
  refine ret_hide fun R hR => ?_
  obtain ⟨k, lk, id⟩ := e
  have hs2 := hs.alloc (.cells #[k, .int .i64 id] 35)
  have X1 := Lib.hid hb
  unfold ptr
  rcases h with _ | d
  · obtain ⟨rfl, hs3⟩ := sat_tree_zero.1 hs2.p2
    have hb : b = false := by
      cases b
      · rfl
      · have := hb.1 rfl
        obtain ⟨x, hx, _⟩ := this
        simp at hx
    subst hb
    obtain ⟨r0, r1, r2, r3, r4⟩ := hd_cells hs3
    have hR' := hR.out _ _ ⟨rfl, hs2.drop⟩
    clear hR hs2 hs hs3
    go_enter Try.func31, Try.ntmps31
    go_wp2
    generalize w.alloc (.cells #[k, .int .i64 id] 35) = w1 at *
    generalize w.heap.size = n at *
    go_loopw [5] (fun v wr => v = .pointer none ∧ wr = w1) (fun v wr => 0)
    case atStart => exact ⟨rfl, rfl⟩
    case round =>
      obtain ⟨rfl, rfl⟩ := hrel
      go_wp2
      try go_ret
      exact hR'
  · obtain ⟨p, t, hfl, hok, h1, h7, hs3⟩ := sat_tree_succ.1 hs2.p2
    obtain ⟨r0, r1, r2, r3, r4⟩ := hd_cells hs3
    unfold ptr at r1
    go_enter Try.func31, Try.ntmps31
    go_wp2
    generalize w.alloc (.cells #[k, .int .i64 id] 35) = w1 at *
    generalize w.heap.size = n at *
    go_loopw [5] (fun v wr => ∃ d', Way E (tree r (d + 1) l * A) (pts n (.cells #[k, .int .i64 id] 35 (0, 0))) ⟨k, lk, id⟩ b d' v wr) (fun v wr => least fun d' => Way E (tree r (d + 1) l * A) (pts n (.cells #[k, .int .i64 id] 35 (0, 0))) ⟨k, lk, id⟩ b d' v wr)
    case atStart =>
      refine ⟨d, p, t, hd r (ptr p) l.length * A, rfl, hs3.to (by ac_rfl), fun w' h => sat_tree_succ.2 ⟨p, t, hfl, hok, h1, h7, h.p2⟩, hok, hfl ▸ hso, hfl ▸ hg, h7, hfl ▸ X1.out⟩
    case round =>
      have hI := least_spec hrel
      revert hI
      generalize hd0 : least _ = d0
      intro hI
      replace hd0 := Lib.hid hd0
      clear hrel hs3 hs2 hs r0 r1 r2 r3 r4
      obtain ⟨p', t', B, rfl, hsW, hwand, hok', hso', hg', h7', hbi⟩ := hI
      clear t hfl hok h1 h7 hso hg hb
      have hsub := es_sub d0 t' hok'
      have hss := sorted_sub hso' hsub
      have hge := goods_sub hg' hsub
      replace hwand := Lib.hid hwand
      replace hbi := Lib.hid hbi
      by_cases hf : found (t'.es.map fun x => ecmp x.kv (⟨k, lk, id⟩ : Ent).kv) = true
      · -- it is here
        have hbt : b = true := hbi.out.2 (by
          obtain ⟨x, hx, hk⟩ := (found_inn hss).1 hf
          exact ⟨x, hsub.subset hx, hk⟩)
        have hf' := Lib.hid hf
        clear hf
        obtain ⟨ve, vk, hsN⟩ := sat_node.1 hsW
        obtain ⟨f0, f1, f2, f3, f4⟩ := entFacts _ hsN.p4
        clear hbi X1
        subst hbt
        go_wp2_with fail
        refine (place E _ _ p' ve vk k id lk t'.es hsN hge hv (by omega) (rises_sorted hss _)).mono ?_
        rintro e w2 ⟨_, rfl, rfl, hs3⟩
        have hff : found (t'.es.map fun x => ecmp x.kv (lk, id)) = true := hf'.out
        rw [hff]
        clear hff
        generalize pos (t'.es.map fun x => ecmp x.kv (lk, id)) = i at *
        have hR' := hR.out _ _ ⟨rfl, hwand.out _ (sat_node.2 ⟨_, _, hs3⟩).p2.drop⟩
        clear hR hs3 hf' hsN hsW f0 f1 f2 f3 f4
        go_wp2_with fail
        try go_ret
        exact hR'
      · have hf : found (t'.es.map fun x => ecmp x.kv (⟨k, lk, id⟩ : Ent).kv) = false := by simpa using hf
        have qe := fun (W : World) a n c => Lib.run_eql_slice_nil (P := Try.prog) W 62 55 a n c 0 0 Try.underlying62
        rcases d0 with _ | d0
        · have hbt : b = false := by
            cases b
            · rfl
            · have := (found_inn hss).2 (hbi.out.1 rfl)
              rw [hf] at this; cases this
          have hf' := Lib.hid hf
          clear hf
          obtain ⟨ve, vk, hsN⟩ := sat_node.1 hsW
          obtain ⟨rfl, _⟩ := sat_under_zero.1 hsN.p3
          obtain ⟨f0, f1, f2, f3, f4⟩ := entFacts _ hsN.p4
          clear hbi X1
          subst hbt
          go_wp2_with fail
          refine (place E _ _ p' ve _ k id lk t'.es hsN hge hv (by omega) (rises_sorted hss _)).mono ?_
          rintro e w2 ⟨_, rfl, rfl, hs3⟩
          have hff : found (t'.es.map fun x => ecmp x.kv (lk, id)) = false := hf'.out
          rw [hff]
          generalize pos (t'.es.map fun x => ecmp x.kv (lk, id)) = i at *
          have hR' := hR.out _ _ ⟨rfl, hwand.out _ (sat_node.2 ⟨_, _, hs3⟩).p2.drop⟩
          obtain ⟨p0, p1, p2, p3, p4⟩ := nd_cells hs3
          clear hR hs3 hff hf' hsN hsW f0 f1 f2 f3 f4
          go_wp2_with fail
          try go_ret
          exact hR'
        · obtain ⟨ea, eb, ka, q, tq, kb, rfl, hl, hl2, hpos, hh, ht⟩ := split_inner' hok' hso' hf
          have hfl := flat_split (eb := eb) (kb := kb) (k := (q, tq)) hl
          have hsubq : (flat d0 tq).Sublist (flat (d0 + 1) (mk (ea ++ eb) (ka ++ (q, tq) :: kb))) := by
            rw [hfl]; exact (List.sublist_append_left _ _).trans (List.sublist_append_right _ _)
          have hinn : inn ⟨k, lk, id⟩ (flat (d0 + 1) (mk (ea ++ eb) (ka ++ (q, tq) :: kb))) ↔ inn ⟨k, lk, id⟩ (flat d0 tq) := by
            rw [hfl, inn_append, inn_append]
            exact ⟨fun h => h.elim (fun h => absurd h (not_inn_lt hh)) fun h => h.elim (fun h => h) fun h => absurd h (not_inn_gt ht), fun h => .inr (.inl h)⟩
          have hbq : Hid (b = true ↔ inn ⟨k, lk, id⟩ (flat d0 tq)) := hbi.out.trans hinn
          obtain ⟨hq3, hq7, hokq⟩ := ((ok_mk _ _).1 hok').2 (q, tq) (by simp)
          simp only at hq3 hq7 hokq
          rw [mk_es] at hge hss h7' hpos hf
          obtain ⟨ve, vk, hsN⟩ := open_node.1 hsW
          obtain ⟨gk, ck, rfl, hck, _⟩ := row_some hsN.p3 (by simp)
          generalize hN : (ka.map (·.1) ++ q :: kb.map (·.1)).length = N at *
          have hcl : ea.length < N := by rw [← hN]; simp; omega
          have hN := Lib.hid hN
          have hps : ∀ h, (ka.map (·.1) ++ q :: kb.map (·.1))[ea.length]'h = q := by intro h; simp [← hl]
          replace hps := Lib.hid hps
          have X3 := Lib.hid hpos
          have X4 := Lib.hid hf
          have hgq := goods_sub hg' hsubq
          have hsq := sorted_sub hso' hsubq
          obtain ⟨f0, f1, f2, f3, f4⟩ := entFacts _ hsN.p7
          clear hl hl2 hpos hf hfl hinn hok' hso' hg' hsubq hsub
          go_wp2_with fail
          refine (place E _ _ p' ve _ k id lk (ea ++ eb) hsN hge hv (by omega) (rises_sorted hss _)).mono ?_
          rintro e w2 ⟨_, rfl, rfl, hs3⟩
          have hpp : pos ((ea ++ eb).map fun x => ecmp x.kv (lk, id)) = ea.length := X3.out.symm
          have hff : found ((ea ++ eb).map fun x => ecmp x.kv (lk, id)) = false := X4.out
          rw [hff, hpp]
          clear hff hpp X3 X4 f0 f1 f2 f3 f4 hsN hsW
          obtain ⟨p0, p1, p2, p3, p4⟩ := nd_cells hs3
          have ck0 := kids_cell hs3.p3 ea.length (by have := hN.out; omega)
          rw [hps.out] at ck0
          unfold ptr at ck0
          have hW : Way E (tree r (d + 1) l * A) (pts n (.cells #[k, .int .i64 id] 35 (0, 0))) ⟨k, lk, id⟩ b d0 (.pointer (some ⟨q, 0, none⟩)) w2 :=
            ⟨q, tq, _, rfl, hs3.p4.p7.p2, fun w' h => hwand.out _ (open_node.2 ⟨_, _, h.r4⟩), hokq, hsq, hgq, hq7, hbq.out⟩
          clear hs3 hwand hbi hbq hps hN X1
          go_wp2_with fail
          go_roundw
          case rel => exact ⟨_, hW⟩
          case measure => rw [hd0.out]; exact Nat.lt_of_le_of_lt (least_le hW) (by omega)

end Go.Proofs.Ytmibiaakppkmmaa
