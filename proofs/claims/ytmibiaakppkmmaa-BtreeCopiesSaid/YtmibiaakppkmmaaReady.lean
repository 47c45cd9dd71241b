/- A kid is made ready: it has an entry more than it must. -/
import Derived.Test.YtmibiaakppkmmaaReady0
namespace Go.Proofs.Ytmibiaakppkmmaa
open Go.RowKit Go.Sep
set_option linter.unusedVariables false
set_option linter.unusedSimpArgs false

theorem mem_tails {x : Ent} {l : List Ent} : ∀ {es : List Ent} {ks : List (List Ent)}, ks.length = es.length → l ∈ ks → x ∈ l → x ∈ tails es ks
  | [], [], _, h, _ => by cases h
  | e :: es, k :: ks, hl, h, hx => by
    simp only [tails, List.mem_cons, List.mem_append]
    rcases List.mem_cons.1 h with rfl | h
    · exact .inr (.inl hx)
    · exact .inr (.inr (mem_tails (by simpa using hl) h hx))

theorem mem_weave {x : Ent} {l : List Ent} {es : List Ent} {ks : List (List Ent)} (hl : ks.length = es.length + 1) (h : l ∈ ks) (hx : x ∈ l) : x ∈ weave ks es := by
  cases ks with
  | nil => simp at hl
  | cons k ks =>
    simp only [weave, List.mem_append]
    rcases List.mem_cons.1 h with rfl | h
    · exact .inl hx
    · exact .inr (mem_tails (by simpa using hl) h hx)

theorem kid_goods {E : Env} {d : Nat} {t : T (d + 1)} (hg : Env.goods E (flat (d + 1) t)) (hok : ok (d + 1) t) : ∀ k ∈ t.ks, Env.goods E (flat d k.2) := fun k hk x hx =>
  hg x (by rw [flat_succ]; exact mem_weave (by rw [List.length_map]; exact hok.1) (List.mem_map.2 ⟨k, hk, rfl⟩) hx)

theorem es_goods {E : Env} {d : Nat} {t : T d} (hg : Env.goods E (flat d t)) (hok : ok d t) : Env.goods E t.es := goods_sub hg (es_sub d t hok)

theorem nil_or_snoc {α : Type} (l : List α) : l = [] ∨ ∃ a b, l = a ++ [b] := by
  cases h : l.reverse with
  | nil => exact .inl (by simpa using h)
  | cons b a => exact .inr ⟨a.reverse, b, by rw [← List.reverse_reverse l, h]; simp⟩

theorem sat_nodes_cons {E : Env} {w : World} {A : Asn} {d q : Nat} {t : T d} {kb : List (Nat × T d)} (h : sat E w (nodes d ((q, t) :: kb) * A)) : sat E w (node d q t * (nodes d kb * A)) := h.to (by rw [nodes_cons, sep_assoc])
theorem sat_nodes_snoc {E : Env} {w : World} {A : Asn} {d q : Nat} {t : T d} {ka : List (Nat × T d)} (h : sat E w (nodes d (ka ++ [(q, t)]) * A)) : sat E w (node d q t * (nodes d ka * A)) := h.to (by rw [nodes_append, nodes_cons, nodes_nil, sep_one]; ac_rfl)

/-- a node whose last entry is told -/
theorem cut_last {d : Nat} {t : T d} (hok : ok d t) (h : 1 ≤ t.es.length) : ∃ a y z, t = joinT a y z ∧ z.es = [] ∧ a.es.length + 1 = t.es.length ∧ ok d a ∧ ok d z ∧ y ∈ t.es ∧ a.es.Sublist t.es := by
  obtain ⟨y, i, hi⟩ := lst_of_ne (l := t.es) (by intro e; rw [e] at h; simp at h)
  obtain ⟨a, z, h1, h2, h3, h4, h5⟩ := cutAt hok (ea := i) (eb := []) hi
  exact ⟨a, y, z, h1, h3, by rw [h2, hi]; simp, h4, h5, by rw [hi]; simp, by rw [h2, hi]; exact List.sublist_append_left _ _⟩

/-- a node whose first entry is told -/
theorem cut_first {d : Nat} {t : T d} (hok : ok d t) (h : 1 ≤ t.es.length) : ∃ z y b, t = joinT z y b ∧ z.es = [] ∧ b.es.length + 1 = t.es.length ∧ ok d b ∧ ok d z ∧ y ∈ t.es ∧ b.es.Sublist t.es := by
  obtain ⟨y, i, hi⟩ : ∃ y i, t.es = y :: i := by
    cases e : t.es with
    | nil => rw [e] at h; simp at h
    | cons y i => exact ⟨y, i, rfl⟩
  obtain ⟨z, b, h1, h2, h3, h4, h5⟩ := cutAt hok (ea := []) (eb := i) hi
  exact ⟨z, y, b, h1, h2, by rw [h3, hi]; simp, h5, h4, by rw [hi]; simp, by rw [h3, hi]; exact List.sublist_cons_self _ _⟩

set_option maxRecDepth 100000 in
set_option maxHeartbeats 4000000 in
theorem ready (d : Nat) (E : Env) (w : World) (A : Asn) (p q : Nat) (ea eb : List Ent) (ka kb : List (Nat × T d)) (tq : T d)
    (hs : sat E w (node (d + 1) p (mk (ea ++ eb) (ka ++ (q, tq) :: kb)) * A)) (hok : ok (d + 1) (mk (ea ++ eb) (ka ++ (q, tq) :: kb))) (hl : ka.length = ea.length) (hl2 : kb.length = eb.length) (h1 : 1 ≤ (ea ++ eb).length) (h7 : (ea ++ eb).length ≤ 7)
    (hg : Env.goods E (flat (d + 1) (mk (ea ++ eb) (ka ++ (q, tq) :: kb)))) :
    Calls Try.prog 49 #[ptr p, .int .i64 ea.length] w (Ret fun r w' => ∃ ea' eb' ka' q' tq' kb', r = .int .i64 ea'.length ∧ Rdy ea eb ka tq kb ea' eb' ka' tq' kb' ∧ sat E w' (node (d + 1) p (mk (ea' ++ eb') (ka' ++ (q', tq') :: kb')) * A)) := by
  refine ret_hide fun R hR => ?_
  have hkg := kid_goods hg hok
  have hgE : Env.goods E (ea ++ eb) := es_goods hg hok
  have hokk : ∀ k ∈ ka ++ (q, tq) :: kb, okT k.2 := ((ok_mk _ _).1 hok).2
  have hkg' : ∀ k ∈ ka ++ (q, tq) :: kb, Env.goods E k.2.es := fun k hk => es_goods (hkg k hk) (hokk k hk).2.2
  have oq : okT tq := hokk (q, tq) (by simp)
  have gq : Env.goods E tq.es := hkg' (q, tq) (by simp)
  have oa : ∀ k ∈ ka, okT k.2 := fun k hk => hokk k (by simp [hk])
  have ob : ∀ k ∈ kb, okT k.2 := fun k hk => hokk k (by simp [hk])
  have ga : ∀ k ∈ ka, Env.goods E k.2.es := fun k hk => hkg' k (by simp [hk])
  have gb : ∀ k ∈ kb, Env.goods E k.2.es := fun k hk => hkg' k (by simp [hk])
  obtain ⟨ve, vk, hsO⟩ := open_node.1 hs
  obtain ⟨gk, ck, rfl, hck, _⟩ := row_some hsO.p3 (by simp)
  obtain ⟨p0, p1, p2, p3, p4⟩ := nd_cells hsO
  have hN : (ka.map (·.1) ++ q :: kb.map (·.1)).length = ea.length + eb.length + 1 := by simp [hl, hl2]; omega
  have kci := kids_cell hsO.p3 ea.length (by rw [hN]; omega)
  rw [show (ka.map (·.1) ++ q :: kb.map (·.1))[ea.length]'(by rw [hN]; omega) = q by simp [← hl]] at kci
  obtain ⟨gq', cq, lq0, lq1⟩ := node_len hsO.p4 (by have := oq.1; omega)
  clear p1 p3 p4 hkg hkg' hokk
  unfold ptr at kci
  by_cases hbig : 3 < tq.es.length
  · have hbig' : (3 : Int) < tq.es.length := by omega
    have hR' := hR.out _ _ ⟨ea, eb, ka, q, tq, kb, rfl, rdy_same hl hl2 hbig oa oq ob, hs⟩
    rw [hN] at p2
    clear hR hN
    unfold ptr
    go_enter Try.func49, Try.ntmps49
    go_wp2
    try go_ret
    exact hR'
  · have hq3 : tq.es.length = 3 := by have := oq.1; omega
    have hbig' : ¬ ((3 : Int) < tq.es.length) := by omega
    rw [hq3] at lq1
    rcases nil_or_snoc ea with rfl | ⟨ea0, m, rfl⟩
    · -- no kid to the left
      obtain rfl : ka = [] := List.eq_nil_of_length_eq_zero (by simpa using hl)
      obtain ⟨m, eb1, rfl⟩ : ∃ m eb1, eb = m :: eb1 := by
        cases eb with
        | nil => simp at h1
        | cons m eb1 => exact ⟨m, eb1, rfl⟩
      obtain ⟨q1, t1, kb1, rfl⟩ : ∃ q1 t1 kb1, kb = (q1, t1) :: kb1 := by
        cases kb with
        | nil => simp at hl2
        | cons k kb1 => exact ⟨k.1, k.2, kb1, rfl⟩
      have hl3 : kb1.length = eb1.length := by simpa using hl2
      have o1 : okT t1 := ob (q1, t1) (by simp)
      have g1 : Env.goods E t1.es := gb (q1, t1) (by simp)
      have ob1 : ∀ k ∈ kb1, okT k.2 := fun k hk => ob k (by simp [hk])
      simp only [List.nil_append, List.map_nil, List.length_nil, List.map_cons] at *
      have kcr := kids_cell hsO.p3 (1) (by rw [hN]; simp)
      rw [show (q :: q1 :: kb1.map (·.1))[1]'(by rw [hN]; simp) = q1 by simp] at kcr
      obtain ⟨gr, cr, lr0, lr1⟩ := node_len (sat_nodes_cons hsO.p6) (by have := o1.1; omega)
      unfold ptr at kcr
      rw [hN] at p2
      have hN2 : 0 + (m :: eb1).length + 1 = eb1.length + 2 := by simp
      rw [hN2] at p2
      clear hN hN2 hsO
      by_cases h1b : 3 < t1.es.length
      · have h1b' : (3 : Int) < t1.es.length := by omega
        obtain ⟨z, y, b, rfl, hz, hbl, okb, okz, hyin, hbs⟩ := cut_first o1.2.2 (by have := o1.1; omega)
        obtain ⟨ve2, vk2, hs2⟩ := open_two (ka := []) (kb := kb1).1 hs
        have hcall := shiftL d E w _ p q q1 ve2 vk2 [] eb1 m [] (kb1.map (·.1)) tq z b y hs2 rfl hz (by omega) (by have := o1.1; omega) (by omega) (by have := o1.2.1; omega) oq.2.2 okz okb gq (goods_sub g1 hbs) (g1 y hyin) hgE (by simp; simp at h7; omega) (by simp at h7 ⊢; omega)
        unfold ptr at hcall
        have hfin := fun w' ve' vk' h => open_two (E := E) (w := w') (A := A) (d := d) (p := p) (qa := q) (qb := q1) (es := y :: eb1) (ka := []) (kb := kb1) (ta := joinT tq m z) (tb := b).2 ⟨ve', vk', h⟩
        have hR1 := fun w' h => hR.out _ w' ⟨[], y :: eb1, [], q, joinT tq m z, (q1, b) :: kb1, rfl, rdy_left rfl hl3 rfl hz h1b hq3 okb okz (fun _ h => by cases h) o1 oq ob1, h⟩
        replace hR1 := Lib.hid hR1
        replace hcall := Lib.hid hcall
        replace hfin := Lib.hid hfin
        replace hq3 := Lib.hid hq3
        replace hbl := Lib.hid hbl
        replace hz := Lib.hid hz
        clear hR hs2 hs hok hg hl hl2 hl3
        unfold ptr
        go_enter Try.func49, Try.ntmps49
        go_wp2_with fail
        refine hcall.out.mono ?_
        rintro e w3 ⟨_, rfl, rfl, ve', vk', hs3⟩
        have hR' := hR1.out _ (hfin.out _ _ _ hs3)
        clear hR1 hfin hcall hs3 lr0 lr1 kcr kci lq0 lq1 p0 p2
        go_wp2
        try go_ret
        exact hR'
      · have h13 : t1.es.length = 3 := by have := o1.1; omega
        have h1b' : ¬ ((3 : Int) < t1.es.length) := by omega
        obtain ⟨ve2, vk2, hs2⟩ := open_two (ka := []) (kb := kb1).1 hs
        have hcall := join d E w _ p q q1 ve2 vk2 [] eb1 m [] (kb1.map (·.1)) tq t1 hs2 rfl (by omega) (by omega) (by omega) (by omega) oq.2.2 o1.2.2 gq g1 hgE (by simp; simp at h7; omega) (by simp at h7 ⊢; omega)
        unfold ptr at hcall
        have hfin := fun w' ve' vk' h => open_node (E := E) (w := w') (A := A) (d := d) (p := p) (q := q) (es := eb1) (ka := []) (kb := kb1) (t := joinT tq m t1).2 ⟨ve', vk', h⟩
        have hR1 := fun w' h => hR.out _ w' ⟨[], eb1, [], q, joinT tq m t1, kb1, rfl, rdy_join1 rfl hl3 h13 hq3 (fun _ h => by cases h) o1 oq ob1, h⟩
        rw [h13] at lr1
        replace hR1 := Lib.hid hR1
        replace hcall := Lib.hid hcall
        replace hfin := Lib.hid hfin
        replace hq3 := Lib.hid hq3
        replace h13 := Lib.hid h13
        clear hR hs2 hs hok hg hl hl2 hl3
        unfold ptr
        go_enter Try.func49, Try.ntmps49
        go_wp2_with fail
        refine hcall.out.mono ?_
        rintro e w3 ⟨_, rfl, rfl, ve', vk', hs3⟩
        have hR' := hR1.out _ (hfin.out _ _ _ hs3)
        clear hR1 hfin hcall hs3 lr0 lr1 kcr kci lq0 lq1 p0 p2
        go_wp2
        try go_ret
        exact hR'
    · -- a kid to the left
      obtain ⟨q0, t0, ka0, rfl⟩ : ∃ q0 t0 ka0, ka = ka0 ++ [(q0, t0)] := by
        rcases nil_or_snoc ka with rfl | ⟨ka0, k, rfl⟩
        · simp at hl
        · exact ⟨k.1, k.2, ka0, rfl⟩
      have hl0 : ka0.length = ea0.length := by simpa using hl
      have o0 : okT t0 := oa (q0, t0) (by simp)
      have g0 : Env.goods E t0.es := ga (q0, t0) (by simp)
      have oa0 : ∀ k ∈ ka0, okT k.2 := fun k hk => oa k (by simp [hk])
      have hes : (ea0 ++ [m]) ++ eb = ea0 ++ m :: eb := by simp
      have hks : (ka0 ++ [(q0, t0)]) ++ (q, tq) :: kb = ka0 ++ (q0, t0) :: (q, tq) :: kb := by simp
      have hei : (ea0 ++ [m]).length = ea0.length + 1 := by simp
      have kcl := kids_cell hsO.p3 ea0.length (by rw [hN]; simp; omega)
      rw [show ((ka0 ++ [(q0, t0)]).map (·.1) ++ q :: kb.map (·.1))[ea0.length]'(by rw [hN]; simp; omega) = q0 by simp [← hl0]] at kcl
      obtain ⟨gl, cl, ll0, ll1⟩ := node_len (sat_nodes_snoc hsO.p5) (by have := o0.1; omega)
      unfold ptr at kcl
      rw [hei] at kci
      have hb7 : ea0.length ≤ 7 := by simp at h7; omega
      have hcast : ((ea0.length + 1 : Nat) : Int) = (ea0.length : Int) + 1 := rfl
      by_cases h0b : 3 < t0.es.length
      · have h0b' : (3 : Int) < t0.es.length := by omega
        obtain ⟨a, y, z, rfl, hz, hal, oka, okz, hyin, has⟩ := cut_last o0.2.2 (by have := o0.1; omega)
        rw [hes, hks] at hs
        rw [hes] at hgE
        obtain ⟨ve2, vk2, hs2⟩ := open_two.1 hs
        have hcall := shiftR d E w _ p q0 q ve2 vk2 ea0 eb m (ka0.map (·.1)) (kb.map (·.1)) a z tq y hs2 (by simpa using hl0) hz (by omega) (by omega) (by have := o0.2.1; omega) (by omega) oka okz oq.2.2 (goods_sub g0 has) gq (g0 y hyin) hgE (by simp at h7 ⊢; omega) (by simp at h7 ⊢; omega)
        unfold ptr at hcall
        have hR1 := fun w' (h : sat E w' (node (d + 1) p (mk ((ea0 ++ [y]) ++ eb) ((ka0 ++ [(q0, a)]) ++ (q, (joinT z m tq)) :: kb)) * A)) => hR.out _ w' ⟨(ea0 ++ [y]), eb, (ka0 ++ [(q0, a)]), q, (joinT z m tq), kb, rfl, rdy_right hl0 hl2 rfl hz h0b hq3 oka okz oa0 o0 oq ob, h⟩
        have hfin := fun w' ve' vk' h => (open_two (E := E) (w := w') (A := A) (d := d) (p := p) (qa := q0) (qb := q) (es := ea0 ++ y :: eb) (ka := ka0) (kb := kb) (ta := a) (tb := joinT z m tq).2 ⟨ve', vk', h⟩).to (show _ = node (d + 1) p (mk ((ea0 ++ [y]) ++ eb) ((ka0 ++ [(q0, a)]) ++ (q, joinT z m tq) :: kb)) * A by simp)
        rw [show (ea0 ++ [y]).length = ea0.length + 1 by simp, hcast] at hR1
        rw [hei, hcast]
        rw [hN, hei] at p2
        replace hR1 := Lib.hid hR1
        replace hcall := Lib.hid hcall
        replace hfin := Lib.hid hfin
        replace hq3 := Lib.hid hq3
        replace hal := Lib.hid hal
        replace hz := Lib.hid hz
        clear hR hs2 hs hok hg hl hl2 hl0 hN hsO hei hes hks hcast
        unfold ptr
        go_enter Try.func49, Try.ntmps49
        go_wp2_with fail
        refine hcall.out.mono ?_
        rintro e w3 ⟨_, rfl, rfl, ve', vk', hs3⟩
        have hR' := hR1.out _ (hfin.out _ _ _ hs3)
        clear hR1 hfin hcall hs3 ll0 ll1 kcl kci lq0 lq1 p0 p2
        go_wp2
        try go_ret
        exact hR'
      · have h03 : t0.es.length = 3 := by have := o0.1; omega
        have h0b' : ¬ ((3 : Int) < t0.es.length) := by omega
        rw [h03] at ll1
        rcases eb with _ | ⟨m1, eb1⟩
        · -- none to the right
          obtain rfl : kb = [] := List.eq_nil_of_length_eq_zero (by simpa using hl2)
          rw [hes, hks] at hs
          rw [hes] at hgE
          obtain ⟨ve2, vk2, hs2⟩ := open_two.1 hs
          have hcall := join d E w _ p q0 q ve2 vk2 ea0 [] m (ka0.map (·.1)) [] t0 tq hs2 (by simpa using hl0) (by omega) (by omega) (by omega) (by omega) o0.2.2 oq.2.2 g0 gq hgE (by simp at h7 ⊢; try omega) (by simp at h7 ⊢; omega)
          unfold ptr at hcall
          have hR1 := fun w' (h : sat E w' (node (d + 1) p (mk (ea0 ++ []) (ka0 ++ (q0, (joinT t0 m tq)) :: [])) * A)) => hR.out _ w' ⟨ea0, [], ka0, q0, (joinT t0 m tq), [], rfl, rdy_join0 hl0 hl2 h03 hq3 oa0 o0 oq ob, h⟩
          have hfin := fun w' ve' vk' h => open_node (E := E) (w := w') (A := A) (d := d) (p := p) (q := q0) (es := ea0 ++ []) (ka := ka0) (kb := []) (t := joinT t0 m tq).2 ⟨ve', vk', h⟩
          rw [hei, hcast]
          rw [hN, hei, List.length_nil, Nat.add_zero] at p2
          replace hR1 := Lib.hid hR1
          replace hcall := Lib.hid hcall
          replace hfin := Lib.hid hfin
          replace hq3 := Lib.hid hq3
          replace h03 := Lib.hid h03
          clear hR hs2 hs hok hg hl hl2 hl0 hN hsO hei hes hks hcast
          unfold ptr
          go_enter Try.func49, Try.ntmps49
          go_wp2_with fail
          refine hcall.out.mono ?_
          rintro e w3 ⟨_, rfl, rfl, ve', vk', hs3⟩
          have hR' := hR1.out _ (hfin.out _ _ _ hs3)
          clear hR1 hfin hcall hs3 ll0 ll1 kcl kci lq0 lq1 p0 p2 
          go_wp2
          try go_ret
          exact hR'
        · obtain ⟨q1, t1, kb1, rfl⟩ : ∃ q1 t1 kb1, kb = (q1, t1) :: kb1 := by
            cases kb with
            | nil => simp at hl2
            | cons k kb1 => exact ⟨k.1, k.2, kb1, rfl⟩
          have hl3 : kb1.length = eb1.length := by simpa using hl2
          have o1 : okT t1 := ob (q1, t1) (by simp)
          have g1 : Env.goods E t1.es := gb (q1, t1) (by simp)
          have hb8 : eb1.length ≤ 7 := by simp at h7; omega
          have ob1 : ∀ k ∈ kb1, okT k.2 := fun k hk => ob k (by simp [hk])
          have kcr := kids_cell hsO.p3 (ea0.length + 1 + 1) (by rw [hN]; simp <;> omega)
          rw [show ((ka0 ++ [(q0, t0)]).map (·.1) ++ q :: ((q1, t1) :: kb1).map (·.1))[ea0.length + 1 + 1]'(by rw [hN]; simp <;> omega) = q1 by rw [List.getElem_append_right (by simp [hl0])]; simp [hl0]] at kcr
          obtain ⟨gr, cr, lr0, lr1⟩ := node_len (sat_nodes_cons hsO.p6) (by have := o1.1; omega)
          unfold ptr at kcr
          by_cases h1b : 3 < t1.es.length
          · have h1b' : (3 : Int) < t1.es.length := by omega
            obtain ⟨z, y, b, rfl, hz, hbl, okb, okz, hyin, hbs⟩ := cut_first o1.2.2 (by have := o1.1; omega)
            obtain ⟨ve2, vk2, hs2⟩ := open_two.1 hs
            have hcall := shiftL d E w _ p q q1 ve2 vk2 (ea0 ++ [m]) eb1 m1 ((ka0 ++ [(q0, t0)]).map (·.1)) (kb1.map (·.1)) tq z b y hs2 (by simpa using hl0) hz (by omega) (by have := o1.1; omega) (by omega) (by have := o1.2.1; omega) oq.2.2 okz okb gq (goods_sub g1 hbs) (g1 y hyin) hgE (by simp at h7 ⊢; omega) (by simp at h7 ⊢; omega)
            unfold ptr at hcall
            rw [hei, hcast] at hcall
            have hR1 := fun w' (h : sat E w' (node (d + 1) p (mk ((ea0 ++ [m]) ++ (y :: eb1)) ((ka0 ++ [(q0, t0)]) ++ (q, (joinT tq m1 z)) :: ((q1, b) :: kb1))) * A)) => hR.out _ w' ⟨(ea0 ++ [m]), (y :: eb1), (ka0 ++ [(q0, t0)]), q, (joinT tq m1 z), ((q1, b) :: kb1), rfl, rdy_left hl hl3 rfl hz h1b hq3 okb okz oa o1 oq ob1, h⟩
            have hfin := fun w' ve' vk' h => open_two (E := E) (w := w') (A := A) (d := d) (p := p) (qa := q) (qb := q1) (es := (ea0 ++ [m]) ++ y :: eb1) (ka := ka0 ++ [(q0, t0)]) (kb := kb1) (ta := joinT tq m1 z) (tb := b).2 ⟨ve', vk', h⟩
            rw [hei, hcast] at hR1
            rw [hei, hcast]
            rw [hN, hei, List.length_cons] at p2
            replace hR1 := Lib.hid hR1
            replace hcall := Lib.hid hcall
            replace hfin := Lib.hid hfin
            replace hq3 := Lib.hid hq3
            replace hbl := Lib.hid hbl
            replace hz := Lib.hid hz
            replace h03 := Lib.hid h03
            clear hR hs2 hs hok hg hl hl2 hl0 hN hsO hei hes hks hcast hl3
            unfold ptr
            go_enter Try.func49, Try.ntmps49
            go_wp2_with fail
            refine hcall.out.mono ?_
            rintro e w3 ⟨_, rfl, rfl, ve', vk', hs3⟩
            have hR' := hR1.out _ (hfin.out _ _ _ hs3)
            clear hR1 hfin hcall hs3 ll0 ll1 lr0 lr1 kcr kcl kci lq0 lq1 p0 p2
            go_wp2
            try go_ret
            exact hR'
          · have h13 : t1.es.length = 3 := by have := o1.1; omega
            have h1b' : ¬ ((3 : Int) < t1.es.length) := by omega
            rw [h13] at lr1
            rw [hes, hks] at hs
            rw [hes] at hgE
            obtain ⟨ve2, vk2, hs2⟩ := open_two.1 hs
            have hcall := join d E w _ p q0 q ve2 vk2 ea0 (m1 :: eb1) m (ka0.map (·.1)) (List.map (·.1) ((q1, t1) :: kb1)) t0 tq hs2 (by simpa using hl0) (by omega) (by omega) (by omega) (by omega) o0.2.2 oq.2.2 g0 gq hgE (by simp at h7 ⊢; try omega) (by simp at h7 ⊢; omega)
            unfold ptr at hcall
            have hR1 := fun w' (h : sat E w' (node (d + 1) p (mk (ea0 ++ (m1 :: eb1)) (ka0 ++ (q0, (joinT t0 m tq)) :: ((q1, t1) :: kb1))) * A)) => hR.out _ w' ⟨ea0, (m1 :: eb1), ka0, q0, (joinT t0 m tq), ((q1, t1) :: kb1), rfl, rdy_join0 hl0 hl2 h03 hq3 oa0 o0 oq ob, h⟩
            have hfin := fun w' ve' vk' h => open_node (E := E) (w := w') (A := A) (d := d) (p := p) (q := q0) (es := ea0 ++ (m1 :: eb1)) (ka := ka0) (kb := ((q1, t1) :: kb1)) (t := joinT t0 m tq).2 ⟨ve', vk', h⟩
            rw [hei, hcast]
            rw [hN, hei, List.length_cons] at p2
            replace hR1 := Lib.hid hR1
            replace hcall := Lib.hid hcall
            replace hfin := Lib.hid hfin
            replace hq3 := Lib.hid hq3
            replace h03 := Lib.hid h03
            replace h13 := Lib.hid h13
            clear hR hs2 hs hok hg hl hl2 hl0 hN hsO hei hes hks hcast hl3
            unfold ptr
            go_enter Try.func49, Try.ntmps49
            go_wp2_with fail
            refine hcall.out.mono ?_
            rintro e w3 ⟨_, rfl, rfl, ve', vk', hs3⟩
            have hR' := hR1.out _ (hfin.out _ _ _ hs3)
            clear hR1 hfin hcall hs3 ll0 ll1 kcl kci lq0 lq1 p0 p2 lr0 lr1 kcr
            go_wp2
            try go_ret
            exact hR'
end Go.Proofs.Ytmibiaakppkmmaa
