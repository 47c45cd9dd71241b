/- A full kid is cut in two. -/
import Derived.Test.YtmibiaakppkmmaaPlace
import Derived.Test.YtmibiaakppkmmaaPull
namespace Go.Proofs.Ytmibiaakppkmmaa
open Go.RowKit Go.Sep
set_option linter.unusedVariables false
set_option linter.unusedSimpArgs false

theorem row_cut {E : Env} {w : World} {A : Asn} {e sz g n cap : Nat} {xs : List Value} (m : Nat) (hm : m ≤ n) (h : sat E w (row e sz (.slice (some ⟨g, 0, none⟩) n cap) n xs * A)) :
    sat E w (row e sz (.slice (some ⟨g, 0, none⟩) m m) m (xs.take (m * sz)) * A) := by
  obtain ⟨hl, ⟨hb, _⟩ | ⟨g', cap', cur, hv, c1, c2, c3, c4, hp⟩⟩ := h.row
  · cases hb
  injection hv with e1 _ e3
  injection e1 with e1
  injection e1 with e1
  subst e1; subst e3
  have hmul : m * sz ≤ n * sz := Nat.mul_le_mul_right _ hm
  have hmul2 : n * sz ≤ cap * sz := Nat.mul_le_mul_right _ c1
  refine hp.mk_row (by rw [List.length_take, hl]; omega) (Nat.le_refl _) (by omega) (by omega) ?_
  rw [← c4, List.take_take, Nat.min_eq_left hmul]

/-- a part of an owned slice, read -/
theorem row_firsts {E : Env} {w : World} {A : Asn} {e sz g n cap : Nat} {xs : List Value} (o m c oo : Nat) (ho : oo = o * sz) (hm : o + m = n) (h : sat E w (row e sz (.slice (some ⟨g, 0, none⟩) n cap) n xs * A)) :
    firsts Try.prog w sz m (.slice (some ⟨g, oo, none⟩) m c) (xs.drop (o * sz)) := by
  obtain ⟨hl, ⟨hb, _⟩ | ⟨g', cap', cur, hv, c1, c2, c3, c4, hp⟩⟩ := h.row
  · cases hb
  injection hv with e1 _ e3
  injection e1 with e1
  injection e1 with e1
  subst e1; subst e3; subst ho; subst hm
  refine firsts_some (by rw [List.length_drop, hl, Nat.add_mul]; omega) fun j x hj => ?_
  rw [add_lit]
  exact row_cell hp.block c4 _ _ (by rw [List.getElem?_drop] at hj; exact hj)

theorem row_some {E : Env} {w : World} {A : Asn} {e sz n : Nat} {v : Value} {xs : List Value} (h : sat E w (row e sz v n xs * A)) (hn : n ≠ 0) : ∃ g cap, v = .slice (some ⟨g, 0, none⟩) n cap ∧ n ≤ cap ∧ cap ≤ maxLen := by
  obtain ⟨hl, ⟨_, h0, _⟩ | ⟨g', cap', cur, hv, c1, c2, _⟩⟩ := h.row
  · exact absurd h0 hn
  · exact ⟨g', cap', hv, c1, c2⟩

theorem ents_put (v : Value) (ea eb : List Ent) (m : Ent) : row 35 2 v ((ea ++ eb).length + 1) ((entCells (ea ++ eb)).take (ea.length * 2) ++ [m.k, .int .i64 m.id] ++ (entCells (ea ++ eb)).drop (ea.length * 2)) = ents v (ea ++ m :: eb) := by
  rw [entCells_take, entCells_drop]
  simp [ents, entCells_append, entCells, Nat.add_assoc]

theorem kids_put (v : Value) (ka kb : List Nat) (q : Nat) : row 55 1 v ((ka ++ kb).length + 1) (((ka ++ kb).map ptr).take (ka.length * 1) ++ [ptr q] ++ ((ka ++ kb).map ptr).drop (ka.length * 1)) = kids v (ka ++ q :: kb) := by
  have h1 : ((ka ++ kb).map ptr).take (ka.length * 1) = ka.map ptr := by simp [List.take_append]
  have h2 : ((ka ++ kb).map ptr).drop (ka.length * 1) = kb.map ptr := by simp [List.drop_append]
  rw [h1, h2]
  simp [kids, Nat.add_assoc]

/-- the entry at a place of an owned slice -/
theorem ents_cell {E : Env} {w : World} {A : Asn} {g n cap : Nat} {es : List Ent} (h : sat E w (ents (.slice (some ⟨g, 0, none⟩) n cap) es * A)) (i : Nat) (hi : i < es.length) :
    g < w.heap.size ∧ w.cell? ⟨g, i * 2, none⟩ = some es[i].k ∧ w.cell? ⟨g, i * 2 + 1, none⟩ = some (.int .i64 es[i].id) ∧ w.frozen? ⟨g, i * 2, none⟩ = false ∧ w.frozen? ⟨g, i * 2 + 1, none⟩ = false := by
  rcases sat.ents h with ⟨rfl, _⟩ | ⟨g', cap', cur, hv, c1, c2, c3, c4, hp⟩
  · simp at hi
  injection hv with e1 _ e3
  injection e1 with e1
  injection e1 with e1
  subst e1
  exact ent_cell hp.block c4 i hi

theorem kids_cell {E : Env} {w : World} {A : Asn} {g n cap : Nat} {ps : List Nat} (h : sat E w (kids (.slice (some ⟨g, 0, none⟩) n cap) ps * A)) (i : Nat) (hi : i < ps.length) :
    w.cell? ⟨g, i, none⟩ = some (ptr ps[i]) := by
  obtain ⟨hl, ⟨hb, _⟩ | ⟨g', cap', cur, hv, c1, c2, c3, c4, hp⟩⟩ := h.row
  · cases hb
  injection hv with e1 _ e3
  injection e1 with e1
  injection e1 with e1
  subst e1
  exact kid_cell hp.block c4 i hi


theorem row_ents {E : Env} {w : World} {A : Asn} {v : Value} {n : Nat} {xs : List Value} {es : List Ent} (h : sat E w (row 35 2 v n xs * A)) (hx : xs = entCells es) (hn : n = es.length) : sat E w (ents v es * A) := by
  subst hx; subst hn; exact h
theorem ents_row {E : Env} {w : World} {A : Asn} {v : Value} {n : Nat} {es : List Ent} (h : sat E w (ents v es * A)) (hn : es.length = n) : sat E w (row 35 2 v n (entCells es) * A) := by
  subst hn; exact h
theorem row_kids {E : Env} {w : World} {A : Asn} {v : Value} {n : Nat} {xs : List Value} {ps : List Nat} (h : sat E w (row 55 1 v n xs * A)) (hx : xs = ps.map ptr) (hn : n = ps.length) : sat E w (kids v ps * A) := by
  subst hx; subst hn; exact h
theorem kids_row {E : Env} {w : World} {A : Asn} {v : Value} {n : Nat} {ps : List Nat} (h : sat E w (kids v ps * A)) (hn : ps.length = n) : sat E w (row 55 1 v n (ps.map ptr) * A) := by
  subst hn; exact h

theorem Env.goods.drop {E : Env} {es : List Ent} (h : Env.goods E es) (n : Nat) : Env.goods E (es.drop n) := fun e he => h e (List.mem_of_mem_drop he)
theorem Env.goods.take {E : Env} {es : List Ent} (h : Env.goods E es) (n : Nat) : Env.goods E (es.take n) := fun e he => h e (List.mem_of_mem_take he)

/-- the two halves of a node -/
theorem halves (d : Nat) (t : T d) (h7 : t.es.length = 7) (hok : ok d t) : ∃ t1 t2 : T d, t1.es = t.es.take 3 ∧ t2.es = t.es.drop 4 ∧ ok d t1 ∧ ok d t2 ∧ flat d t = flat d t1 ++ t.es[3] :: flat d t2 ∧
    (∀ h : d = 0, True) ∧ (match d, t, t1, t2 with | 0, _, _, _ => True | d + 1, t, t1, t2 => Nd.ks (κ := T d) t1 = (Nd.ks (κ := T d) t).take 4 ∧ Nd.ks (κ := T d) t2 = (Nd.ks (κ := T d) t).drop 4 ∧ (Nd.ks (κ := T d) t).length = 8) := by
  have hsplit : ∀ es : List Ent, (h : es.length = 7) → es = es.take 3 ++ es[3] :: es.drop 4 := by
    intro es h
    rw [← List.drop_eq_getElem_cons, List.take_append_drop]
  rcases d with _ | d
  · refine ⟨(⟨(Nd.es (κ := Empty) t).take 3, []⟩ : Nd Empty), (⟨(Nd.es (κ := Empty) t).drop 4, []⟩ : Nd Empty), rfl, rfl, trivial, trivial, ?_, fun _ => trivial, trivial⟩
    exact hsplit _ h7
  · have h7' : (Nd.es (κ := T d) t).length = 7 := h7
    obtain ⟨hk, hb⟩ := hok
    rw [h7'] at hk
    refine ⟨(⟨(Nd.es (κ := T d) t).take 3, (Nd.ks (κ := T d) t).take 4⟩ : Nd (T d)), (⟨(Nd.es (κ := T d) t).drop 4, (Nd.ks (κ := T d) t).drop 4⟩ : Nd (T d)), rfl, rfl, ⟨?_, ?_⟩, ⟨?_, ?_⟩, ?_, fun _ => trivial, rfl, rfl, hk⟩
    · simp [hk, h7']
    · exact fun k hk => hb k (List.mem_of_mem_take hk)
    · simp [hk, h7']
    · exact fun k hk => hb k (List.mem_of_mem_drop hk)
    · have := weave_join (c1 := ((Nd.ks (κ := T d) t).take 4).map fun k => flat d k.2) (c2 := ((Nd.ks (κ := T d) t).drop 4).map fun k => flat d k.2) (e1 := (Nd.es (κ := T d) t).take 3) (e2 := (Nd.es (κ := T d) t).drop 4) (m := (Nd.es (κ := T d) t)[3]) (by simp [hk, h7']) (by intro e; have := congrArg List.length e; simp [hk] at this)
      rw [← hsplit _ h7', ← List.map_append, List.take_append_drop] at this
      exact this

theorem under_kids {E : Env} {w : World} {A : Asn} {d : Nat} {vk : Value} {t : T (d + 1)} (h : sat E w (under (d + 1) vk t * A)) : sat E w (kids vk ((Nd.ks (κ := T d) t).map (·.1)) * (nodes d (Nd.ks (κ := T d) t) * A)) :=
  h.to (by rw [under_succ, sep_assoc])

set_option maxRecDepth 10000 in
set_option maxHeartbeats 2000000 in
theorem cut (d : Nat) (E : Env) (w : World) (A : Asn) (p q : Nat) (ve vk : Value) (ea eb : List Ent) (ka kb : List Nat) (t : T d)
    (hs : sat E w (nd p ve vk * (ents ve (ea ++ eb) * (kids vk (ka ++ q :: kb) * (node d q t * A))))) (hl : ka.length = ea.length) (h7 : t.es.length = 7) (hok : ok d t) (hg : Env.goods E t.es) (hg' : Env.goods E (ea ++ eb)) (hn : ka.length + kb.length ≤ 1000) (hn' : ea.length + eb.length ≤ 1000) :
    Calls Try.prog 33 #[ptr p, .int .i64 ea.length] w (Ret fun r w' => r = .tuple #[] ∧ ∃ q' ve' vk' m, ∃ t1 t2 : T d, t1.es.length = 3 ∧ t2.es.length = 3 ∧ ok d t1 ∧ ok d t2 ∧ flat d t = flat d t1 ++ m :: flat d t2 ∧ E.vals m.k m.l ∧
      sat E w' (nd p ve' vk' * (ents ve' (ea ++ m :: eb) * (kids vk' (ka ++ q :: q' :: kb) * (node d q t1 * (node d q' t2 * A)))))) := by
  refine ret_hide fun R hR => ?_
  obtain ⟨vq, kq, hs⟩ := sat_node.1 hs.p4
  obtain ⟨t1, t2, ht1, ht2, ok1, ok2, hfl, _, hks⟩ := halves d t h7 hok
  -- where things lie
  obtain ⟨gk, ck, rfl, hck, _⟩ := row_some hs.p6 (by simp)
  obtain ⟨gq, cq, rfl, hcq, _⟩ := row_some hs.p2 (by omega)
  rw [h7] at hs hcq
  have hlen : (ka ++ q :: kb).length = ka.length + kb.length + 1 := by simp; omega
  generalize hN : (ka ++ q :: kb).length = N at *
  have ck0 := kids_cell hs.p6 ea.length (by omega)
  rw [show (ka ++ q :: kb)[ea.length]'(by omega) = q by simp [← hl]] at ck0
  obtain ⟨q0, q1, q2, q3, q4⟩ := nd_cells hs
  obtain ⟨p0, p1, p2, p3, p4⟩ := nd_cells hs.p4
  unfold ptr at ck0
  have hin : ea.length < N := by omega
  have hN2 := Lib.hid hN
  have hlen2 := Lib.hid hlen
  have hl2 := Lib.hid hl
  have hm : E.vals t.es[3].k t.es[3].l := hg _ (List.getElem_mem _)
  clear hN hlen hl
  unfold ptr
  have qn := fun (W : World) a n c => run_neq_slice_nil_any (P := Try.prog) W 62 55 a n c 0 0 Try.underlying62
  have H7 := Lib.hid h7
  have Hf := Lib.hid hfl
  clear hfl
  -- the kids of the kid
  rcases d with _ | d
  obtain ⟨rfl, hs⟩ := sat_under_zero.1 hs.p3
  have hs := hs.p2
  have hf1 := row_firsts 4 3 (cq - 4) 8 rfl rfl (ents_row hs h7)
  go_enter Try.func33, Try.ntmps33
  go_wp2_with fail
  refine (cloneRowEnt E _ _ _ 3 _ _ hs.r2 (by rw [List.length_drop, entCells_length, h7]) hf1 (fun u hu => entCells_one hg u (List.mem_of_mem_drop hu)) (by omega)).mono ?_
  rintro e w1 ⟨v1, rfl, hs1⟩
  obtain ⟨g1, c1, rfl, _, _⟩ := row_some hs1 (by omega)
  have hs1 := row_ents hs1 (entCells_drop _ 4) (by rw [List.length_drop, h7])
  clear hf1 q0 q1 q2 q3 q4 p0 p1 p2 p3 p4 ck0
  have hs2 := hs1.alloc (.cells #[.slice (some ⟨g1, 0, none⟩) 3 c1, .slice none 0 0] 64)
  obtain ⟨q0, q1, q2, q3, q4⟩ := nd_cells hs2.p3
  go_wp2_with fail
  generalize w1.alloc (.cells #[.slice (some ⟨g1, 0, none⟩) 3 c1, .slice none 0 0] 64) = w5 at *
  generalize w1.heap.size = q' at *
  -- nd q' * (ents v1 * (nd q * (ents vq * (nd p * (ents ve * (kids vk * A))))))
  have hU : sat E w5 (nd p ve (.slice (some ⟨gk, 0, none⟩) N ck) * (ents ve (ea ++ eb) * (kids (.slice (some ⟨gk, 0, none⟩) N ck) (ka ++ q :: kb) * (nd q (.slice (some ⟨gq, 0, none⟩) 7 cq) (.slice none 0 0) * (ents (.slice (some ⟨gq, 0, none⟩) 7 cq) t.es * (under 0 (.slice none 0 0) t1 * (nd q' (.slice (some ⟨g1, 0, none⟩) 3 c1) (.slice none 0 0) * (ents (.slice (some ⟨g1, 0, none⟩) 3 c1) (t.es.drop 4) * (under 0 (.slice none 0 0) t2 * A))))))))) := by
    have x := sat_under_zero (t := t1).2 ⟨rfl, sat_under_zero (t := t2).2 ⟨rfl, hs2⟩⟩
    refine x.to ?_
    simp only [nd]
    ac_rfl
  
  clear hs2 hs1 hs q0 q1 q2 q3 q4
  rotate_left
  obtain ⟨hk1, hk2, hk8⟩ := hks
  obtain ⟨gkq, ckq, rfl, hckq, _⟩ := row_some (under_kids hs.p3) (by simp [hk8])
  simp only [List.length_map, hk8] at hs hckq
  have hf1 := row_firsts 4 3 (cq - 4) 8 rfl rfl (ents_row hs.p2 h7)
  go_enter Try.func33, Try.ntmps33
  go_wp2_with fail
  refine (cloneRowEnt E _ _ _ 3 _ _ hs (by rw [List.length_drop, entCells_length, h7]) hf1 (fun u hu => entCells_one hg u (List.mem_of_mem_drop hu)) (by omega)).mono ?_
  rintro e w1 ⟨v1, rfl, hs1⟩
  obtain ⟨g1, c1, rfl, _, _⟩ := row_some hs1 (by omega)
  have hs1 := row_ents hs1 (entCells_drop _ 4) (by rw [List.length_drop, h7])
  clear hf1 q0 q1 q2 q3 q4 p0 p1 p2 p3 p4 ck0
  have hs2 := hs1.alloc (.cells #[.slice (some ⟨g1, 0, none⟩) 3 c1, .slice none 0 0] 64)
  obtain ⟨q0, q1, q2, q3, q4⟩ := nd_cells hs2.p3
  clear hs1
  have hf2 := row_firsts (m := 4) 4 (ckq - 4) 4 rfl rfl (kids_row (under_kids hs2.p5) (by simp [hk8] : _ = 8))
  go_wp2_with fail
  refine (cloneRowNode E _ _ _ 4 _ _ hs2 (by simp [hk8]) hf2 (fun u hu => ptrs_one _ u (List.mem_of_mem_drop hu)) (by omega)).mono ?_
  rintro e w3 ⟨v2, rfl, hs3⟩
  obtain ⟨g2, c2, rfl, _, _⟩ := row_some hs3 (by omega)
  clear hf2 q0 q1 q2 q3 q4
  generalize w1.heap.size = q' at *
  obtain ⟨q0, q1, q2, q3, q4⟩ := nd_cells hs3.p4
  obtain ⟨r0, r1, r2, r3, r4⟩ := nd_cells hs3.p2
  have hs4 := nd_set1 (.slice (some ⟨g2, 0, none⟩) 4 c2) hs3.p2
  obtain ⟨s0, s1, s2, s3, s4⟩ := nd_cells hs4.p4
  have hs5 := nd_set1 (.slice (some ⟨gkq, 0, none⟩) 4 4) hs4.p4
  clear hs2 hs hs3 hs4
  go_wp2_with fail
  generalize (w3.setCell ⟨q', 1, none⟩ (.slice (some ⟨g2, 0, none⟩) 4 c2)).setCell ⟨q, 1, none⟩ (.slice (some ⟨gkq, 0, none⟩) 4 4) = w5 at *
  have hU : sat E w5 (nd p ve (.slice (some ⟨gk, 0, none⟩) N ck) * (ents ve (ea ++ eb) * (kids (.slice (some ⟨gk, 0, none⟩) N ck) (ka ++ q :: kb) * (nd q (.slice (some ⟨gq, 0, none⟩) 7 cq) (.slice (some ⟨gkq, 0, none⟩) 4 4) * (ents (.slice (some ⟨gq, 0, none⟩) 7 cq) t.es * (under (d + 1) (.slice (some ⟨gkq, 0, none⟩) 4 4) t1 * (nd q' (.slice (some ⟨g1, 0, none⟩) 3 c1) (.slice (some ⟨g2, 0, none⟩) 4 c2) * (ents (.slice (some ⟨g1, 0, none⟩) 3 c1) (t.es.drop 4) * (under (d + 1) (.slice (some ⟨g2, 0, none⟩) 4 c2) t2 * A))))))))) := by
    -- nd q * (nd q' * (row v2 * (ents v1 * (ents vq * (under t * (nd p * (ents ve * (kids vk * A))))))))
    have x1 := row_kids (ps := (Nd.ks (κ := T d) t2).map (·.1)) hs5.p3 (by rw [hk2]; simp) (by rw [hk2]; simp [hk8])
    have x2 := row_cut 4 (by omega) (kids_row (under_kids x1.p6) (by simp [hk8] : _ = 8))
    have x3 := row_kids (ps := (Nd.ks (κ := T d) t1).map (·.1)) x2 (by rw [hk1]; simp) (by rw [hk1]; simp [hk8])
    rw [← List.take_append_drop 4 (Nd.ks (κ := T d) t), nodes_append, ← hk1, ← hk2] at x3
    refine x3.to ?_
    rw [under_succ, under_succ]
    ac_rfl
  clear hs5 q0 q1 q2 q3 q4 r0 r1 r2 r3 r4 s0 s1 s2 s3 s4 hk1 hk2 hk8
  all_goals
    obtain ⟨p0, p1, p2, p3, p4⟩ := nd_cells hU
    refine wp_draw_lit [(0,3),(1,3),(2,3),(3,3),(4,0),(5,3),(6,3),(7,3),(8,3),(9,0),(10,3),(11,0),(12,1),(13,2),(14,3),(15,3),(16,2)] (sat E · _) (by kernel_rfl) (by kernel_rfl) rfl hU.drew ?_
    clear hU p0 p1 p2 p3 p4
    iterate 4 (refine wpD_pure _ rfl rfl rfl ?_; apply Exists.intro; refine ⟨fun w' => ?_, ?_, ?_⟩; (go_wp2; exact ⟨rfl, rfl, rfl⟩); rfl)
    (refine wpD_reads _ rfl rfl rfl ?_; apply Exists.intro; refine ⟨fun w' hK => ?_, ?_, ?_⟩; (obtain ⟨p0, p1, p2, p3, p4⟩ := nd_cells hK; go_wp2; exact ⟨rfl, rfl, rfl⟩); rfl)
    iterate 4 (refine wpD_pure _ rfl rfl rfl ?_; apply Exists.intro; refine ⟨fun w' => ?_, ?_, ?_⟩; (go_wp2; exact ⟨rfl, rfl, rfl⟩); rfl)
    (refine wpD_reads _ rfl rfl rfl ?_; apply Exists.intro; refine ⟨fun w' hK => ?_, ?_, ?_⟩; (obtain ⟨p0, p1, p2, p3, p4⟩ := nd_cells hK.p4; go_wp2; exact ⟨rfl, rfl, rfl⟩); rfl)
    (refine wpD_pure _ rfl rfl rfl ?_; apply Exists.intro; refine ⟨fun w' => ?_, ?_, ?_⟩; (go_wp2; exact ⟨rfl, rfl, rfl⟩); rfl)
    (refine wpD_reads _ rfl rfl rfl ?_; apply Exists.intro; refine ⟨fun w' hK => ?_, ?_, ?_⟩; (obtain ⟨p0, p1, p2, p3, p4⟩ := ents_cell hK.p5 3 (by omega); go_wp2; exact ⟨rfl, rfl, rfl⟩); rfl)
    generalize hm' : t.es[3] = m at *
    refine wpD_does (by decide) rfl rfl (fun Nx hNx w' hK => ?_)
    go_wp2_with fail
    refine ⟨rfl, (fun x => sat E x _), hK.alloc (.cells #[m.k, .int .i64 m.id] 35), fun _ x hx => hx.drop, hNx _ _ ?_⟩
    generalize w'.heap.size = b at *
    clear hK hNx
    refine wpD_does (by decide) rfl rfl (fun Nx hNx w' hK => ?_)
    go_wp2_with fail
    refine (insEnt E _ _ _ (ea ++ eb).length (entCells (ea ++ eb)) [m.k, .int .i64 m.id] ea.length b (by simp) (by simp; omega) hK.p3 rfl (fun u hu => by simp at hu; rcases hu with rfl | rfl; exact vals_one hm; rfl) (entCells_one hg')).mono ?_
    rintro e w6 ⟨v', rfl, hnil, hs6⟩
    obtain ⟨g6, c6, rfl, _, _⟩ := row_some hs6 (by omega)
    rw [ents_put] at hs6
    generalize (ea ++ eb).length + 1 = n6 at *
    go_wp2_with fail
    refine ⟨rfl, (fun x => sat E x _), hs6.p3, fun h => (by cases h), hNx _ _ ?_⟩
    clear hs6 hnil hK hNx
    iterate 2 (refine wpD_pure _ rfl rfl rfl ?_; apply Exists.intro; refine ⟨fun w' => ?_, ?_, ?_⟩; (go_wp2; exact ⟨rfl, rfl, rfl⟩); rfl)
    refine wpD_does (by decide) rfl rfl (fun Nx hNx w' hK => ?_)
    obtain ⟨p0, p1, p2, p3, p4⟩ := nd_cells hK
    have hs7 := (nd_set0 (.slice (some ⟨g6, 0, none⟩) n6 c6) hK).p3.drop
    go_wp2_with fail
    refine ⟨rfl, (fun x => sat E x _), hs7, fun h => (by cases h), hNx _ _ ?_⟩
    clear hs7 hK hNx p0 p1 p2 p3 p4
    refine wpD_nil (fun w8 hK => ?_)
    -- the new kid
    obtain ⟨p0, p1, p2, p3, p4⟩ := nd_cells hK
    have hb8 := hK.alloc (.cells #[ptr q'] 55)
    go_wp2_with fail
    have hcall := insNode E _ _ (.slice (some ⟨gk, 0, none⟩) N ck) N ((ka ++ q :: kb).map ptr) [ptr q'] (ea.length + 1) _ (by omega) (by have := hlen2.out; omega) ((kids_row hb8.p4 hN2.out)) rfl (fun u hu => by simp at hu; subst hu; rfl) (ptrs_one _)
    rw [show ((ea.length + 1 : Nat) : Int) = (ea.length : Int) + 1 from rfl] at hcall
    refine hcall.mono ?_
    rintro e w9 ⟨v', rfl, hnil, hs9⟩
    obtain ⟨g9, c9, rfl, _, _⟩ := row_some hs9 (by omega)
    have hkp := kids_put (.slice (some ⟨g9, 0, none⟩) (N + 1) c9) (ka ++ [q]) kb q'
    rw [show (ka ++ [q]) ++ kb = ka ++ q :: kb by simp, show (ka ++ [q]) ++ q' :: kb = ka ++ q :: q' :: kb by simp, hN2.out, show (ka ++ [q]).length = ea.length + 1 by simp [hl2.out]] at hkp
    rw [hkp] at hs9
    clear hkp hcall hb8 hK p0 p1 p2 p3 p4
    generalize w8.heap.size = b8 at *
    -- kids v' * (pts b8 * (nd p * (ents * (nd q * (ents vq * ...)))))
    obtain ⟨p0, p1, p2, p3, p4⟩ := nd_cells hs9.p3
    have hs10 := (nd_set1 (.slice (some ⟨g9, 0, none⟩) (N + 1) c9) hs9.p3).p3.drop
    obtain ⟨q0, q1, q2, q3, q4⟩ := nd_cells hs10.p4
    have hs11 := nd_set0 (.slice (some ⟨gq, 0, none⟩) 3 3) hs10.p4
    generalize N + 1 = N1 at *
    clear hs9 hs10
    have hs12 := row_cut 3 (by omega) (ents_row hs11.p5 H7.out)
    have hs13 := row_ents (es := t1.es) hs12 (by rw [ht1, ← entCells_take]) (by rw [ht1]; simp [H7.out])
    rw [← ht2] at hs13
    -- ents q * (nd q * (nd p * (kids * (ents * (under t1 * (nd q' * (ents v1 * (under t2 * A))))))))
    have hs14 := sat_node.2 ⟨_, _, hs13.p6.p2.p3⟩
    have hs15 := sat_node.2 ⟨_, _, hs14.p7.p7.p7⟩
    have hs16 := hs15.p2.p4.p5.p5
    have hR' := hR.out (.tuple #[]) _ ⟨rfl, q', _, _, m, t1, t2, by rw [ht1]; simp [H7.out], by rw [ht2]; simp [H7.out], ok1, ok2, Hf.out, hm, hs16⟩
    clear hs16 hs15 hs14 hs13 hs12 hs11 hR ht1 ht2 ok1 ok2 Hf hm
    go_wp2_with fail
    exact bodyPost_end (v := .tuple #[]) (by simp [results, Try.results33]) rfl hR'

end Go.Proofs.Ytmibiaakppkmmaa
