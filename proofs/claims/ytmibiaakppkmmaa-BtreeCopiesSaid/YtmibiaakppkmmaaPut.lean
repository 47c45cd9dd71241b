/- An entry is put under a node that is not full. -/
import Derived.Test.YtmibiaakppkmmaaCut
import Derived.Test.YtmibiaakppkmmaaLaws
namespace Go.Proofs.Ytmibiaakppkmmaa
open Go.RowKit Go.Sep
set_option linter.unusedVariables false
set_option linter.unusedSimpArgs false

/-- what 'put' brings about -/
def Puts (E : Env) (A : Asn) (d p : Nat) (t : T d) (e : Ent) (w' : World) : Prop :=
  ∃ t' a b, flat d t = a ++ b ∧ flat d t' = a ++ e :: b ∧ (∀ x ∈ a, lt x e) ∧ (∀ x ∈ b, lt e x) ∧ ok d t' ∧ t.es.length ≤ t'.es.length ∧ t'.es.length ≤ t.es.length + 1 ∧ sat E w' (node d p t' * A)

theorem put_leaf {E : Env} {w : World} {A : Asn} {p : Nat} {v : Value} {t : T 0} {e : Ent} {ea eb : List Ent} (hes : t.es = ea ++ eb) (ha : ∀ x ∈ ea, lt x e) (hb : ∀ x ∈ eb, lt e x)
    (h : sat E w (nd p v (.slice none 0 0) * (ents v (ea ++ e :: eb) * A))) : Puts E A 0 p t e w := by
  refine ⟨leaf (ea ++ e :: eb), ea, eb, hes, rfl, ha, hb, trivial, by rw [leaf_es, hes]; simp, by rw [leaf_es, hes]; simp; omega, ?_⟩
  have x : sat E w (under 0 (.slice none 0 0) (leaf (ea ++ e :: eb)) * _) := sat_under_zero.2 ⟨rfl, h⟩
  exact sat_node.2 ⟨_, _, x.p3.p3⟩

theorem puts_kid {E : Env} {w : World} {A B : Asn} {d p q : Nat} {t0 : T (d + 1)} {tq : T d} {ea eb : List Ent} {ka kb : List (Nat × T d)} {e : Ent} (hP : Puts E B d q tq e w) (hl : ka.length = ea.length) (hl2 : kb.length = eb.length)
    (h1 : ∀ x ∈ heads (ka.map fun k => flat d k.2) ea, lt x e) (h2 : ∀ x ∈ tails eb (kb.map fun k => flat d k.2), lt e x) (hk : ∀ k ∈ ka ++ kb, 3 ≤ k.2.es.length ∧ k.2.es.length ≤ 7 ∧ ok d k.2) (h3 : 3 ≤ tq.es.length) (h6 : tq.es.length ≤ 6)
    (hf : flat (d + 1) t0 = flat (d + 1) (mk (ea ++ eb) (ka ++ (q, tq) :: kb))) (hn1 : t0.es.length ≤ (ea ++ eb).length) (hn2 : (ea ++ eb).length ≤ t0.es.length + 1)
    (hB : ∀ w t', sat E w (node d q t' * B) → sat E w (node (d + 1) p (mk (ea ++ eb) (ka ++ (q, t') :: kb)) * A)) : Puts E A (d + 1) p t0 e w := by
  obtain ⟨t', a, b, e1, e2, ha, hb, hok, n1, n2, hs⟩ := hP
  refine ⟨mk (ea ++ eb) (ka ++ (q, t') :: kb), heads (ka.map fun k => flat d k.2) ea ++ a, b ++ tails eb (kb.map fun k => flat d k.2), ?_, ?_, ?_, ?_, ?_, hn1, hn2, hB _ _ hs⟩
  · rw [hf, flat_split hl, e1]; simp
  · rw [flat_split hl, e2]; simp
  · intro x hx
    rcases List.mem_append.1 hx with hx | hx
    · exact h1 x hx
    · exact ha x hx
  · intro x hx
    rcases List.mem_append.1 hx with hx | hx
    · exact hb x hx
    · exact h2 x hx
  · rw [ok_mk]
    refine ⟨by simp [hl, hl2]; omega, ?_⟩
    intro k hkm
    rcases List.mem_append.1 hkm with hkm | hkm
    · exact hk k (List.mem_append_left _ hkm)
    · rcases List.mem_cons.1 hkm with rfl | hkm
      · exact ⟨by simp only; omega, by simp only; omega, hok⟩
      · exact hk k (List.mem_append_right _ hkm)

theorem heads_snoc (k : List Ent) (m : Ent) : ∀ (ka : List (List Ent)) (ea : List Ent), ka.length = ea.length → heads (ka ++ [k]) (ea ++ [m]) = heads ka ea ++ (k ++ [m])
  | [], [], _ => by simp [heads]
  | k1 :: ka, e1 :: ea, h => by simp [heads, heads_snoc k m ka ea (by simpa using h)]

theorem heads_cut {d : Nat} {ka : List (Nat × T d)} {ea : List Ent} {q : Nat} {t1 : T d} {m e : Ent} {r : List Ent} (hl : ka.length = ea.length) (hh : ∀ x ∈ heads (ka.map fun k => flat d k.2) ea, lt x e) (hs : sorted (flat d t1 ++ m :: r)) (hm : lt m e) :
    ∀ x ∈ heads ((ka ++ [(q, t1)]).map fun k => flat d k.2) (ea ++ [m]), lt x e := by
  intro x hx
  rw [List.map_append, List.map_cons, List.map_nil, heads_snoc _ _ _ _ (by simpa using hl)] at hx
  rcases List.mem_append.1 hx with hx | hx
  · exact hh x hx
  · rcases List.mem_append.1 hx with hx | hx
    · exact lt_trans ((sorted_append.1 hs).2.2 x hx m (by simp)) hm
    · rw [List.mem_singleton.1 hx]; exact hm

theorem tails_cut {d : Nat} {kb : List (Nat × T d)} {eb : List Ent} {q : Nat} {t2 : T d} {m e : Ent} {r : List Ent} (ht : ∀ x ∈ tails eb (kb.map fun k => flat d k.2), lt e x) (hs : sorted (r ++ m :: flat d t2)) (hm : lt e m) :
    ∀ x ∈ tails (m :: eb) (((q, t2) :: kb).map fun k => flat d k.2), lt e x := by
  intro x hx
  simp only [List.map_cons, tails] at hx
  rcases List.mem_cons.1 hx with rfl | hx
  · exact hm
  · rcases List.mem_append.1 hx with hx | hx
    · exact lt_trans hm ((sorted_cons.1 (sorted_append.1 hs).2.1).1 x hx)
    · exact ht x hx

/-- a node with kids, at the place of an entry that is not there -/
theorem split_inner {d : Nat} {t : T (d + 1)} {e : Ent} (hok : ok (d + 1) t) (hso : sorted (flat (d + 1) t)) (hne : ∀ x ∈ flat (d + 1) t, ecmp x.kv e.kv ≠ 0) :
    ∃ ea eb ka q tq kb, t = mk (ea ++ eb) (ka ++ (q, tq) :: kb) ∧ ka.length = ea.length ∧ kb.length = eb.length ∧ ea.length = pos (t.es.map fun x => ecmp x.kv e.kv) ∧ (∀ x ∈ heads (ka.map fun k => flat d k.2) ea, lt x e) ∧ (∀ x ∈ tails eb (kb.map fun k => flat d k.2), lt e x) := by
  have hsub := es_sub (d + 1) t hok
  obtain ⟨ea, eb, hes, hea, ha, hb⟩ := pos_split (sorted_sub hso hsub) e
  have hb : ∀ x ∈ eb, lt e x := by
    rcases hb with ⟨_, y, eb', rfl, hy, _⟩ | ⟨_, hb⟩
    · exact absurd (by rw [hy]; exact (Cmp.entry.eq _ _).2 rfl) (hne y (hsub.subset (by rw [hes]; simp)))
    · exact hb
  have hlk := hok.1
  have hlk : t.ks.length = t.es.length + 1 := hlk
  have hi : ea.length < t.ks.length := by rw [hlk, hes]; simp; omega
  have hks : t.ks = t.ks.take ea.length ++ t.ks[ea.length] :: t.ks.drop (ea.length + 1) := by rw [← List.drop_eq_getElem_cons, List.take_append_drop]
  have hk1 : (t.ks.take ea.length).length = ea.length := by rw [List.length_take]; omega
  have hk2 : (t.ks.drop (ea.length + 1)).length = eb.length := by rw [List.length_drop, hlk, hes]; simp <;> omega
  have ht : t = mk (ea ++ eb) (t.ks.take ea.length ++ (t.ks[ea.length].1, t.ks[ea.length].2) :: t.ks.drop (ea.length + 1)) := by
    show mk t.es t.ks = mk (ea ++ eb) (t.ks.take ea.length ++ t.ks[ea.length] :: t.ks.drop (ea.length + 1))
    rw [← hks, hes]
  have hfl := flat_split (eb := eb) (kb := t.ks.drop (ea.length + 1)) (k := (t.ks[ea.length].1, t.ks[ea.length].2)) hk1
  rw [← ht] at hfl
  rw [hfl] at hso
  obtain ⟨s1, s2, _⟩ := sorted_append.1 hso
  refine ⟨ea, eb, _, _, _, _, ht, hk1, hk2, hea, heads_lt _ _ (by rw [List.length_map]; exact hk1) s1 ha, tails_gt _ _ (by rw [List.length_map]; exact hk2) (sorted_append.1 s2).2.1 hb⟩

set_option maxRecDepth 10000 in
set_option maxHeartbeats 2000000 in
theorem put (d : Nat) : ∀ (E : Env) (w : World) (A : Asn) (p : Nat) (t : T d) (e : Ent) (hs : sat E w (node d p t * A)) (hv : E.vals e.k e.l) (hg : Env.goods E (flat d t)) (hok : ok d t) (h6 : t.es.length ≤ 6) (hso : sorted (flat d t)) (hne : ∀ x ∈ flat d t, ecmp x.kv e.kv ≠ 0),
    Calls Try.prog 34 #[ptr p, .agg #[e.k, .int .i64 e.id]] w (Ret fun r w' => r = .tuple #[] ∧ Puts E A d p t e w') := by
  induction d with
  | zero =>
    intro E w A p t e hs hv hg hok h6 hso hne
    refine ret_hide fun R hR => ?_
    obtain ⟨k, l, id⟩ := e
    obtain ⟨ve, vk, hs⟩ := sat_node.1 hs
    obtain ⟨rfl, hs⟩ := sat_under_zero.1 hs.p3
    obtain ⟨ea, eb, hes, hea, ha, hb⟩ := pos_split (es := t.es) hso ⟨k, l, id⟩
    have hb : ∀ x ∈ eb, lt ⟨k, l, id⟩ x := by
      rcases hb with ⟨_, y, eb', rfl, hy, _⟩ | ⟨_, hb⟩
      · exact absurd (by rw [hy]; exact (Cmp.entry.eq _ _).2 rfl) (hne y (by rw [flat_leaf, hes]; simp))
      · exact hb
    have hgt : Env.goods E t.es := hg
    have hso' : sorted t.es := hso
    have X1 := Lib.hid hes
    have X2 := Lib.hid hea
    have X3 := Lib.hid ha
    have X4 := Lib.hid hb
    have hlen : t.es.length ≤ 10000 := by omega
    have hs2 := hs.alloc (.cells #[k, .int .i64 id] 35)
    clear hg hso hne hes hea ha hb hs
    unfold ptr
    go_enter Try.func34, Try.ntmps34
    go_wp2_with fail
    generalize w.alloc (.cells #[k, .int .i64 id] 35) = w1 at *
    generalize w.heap.size = n at *
    obtain ⟨f0, f1, f2, f3, f4⟩ := entFacts _ hs2
    go_wp2_with fail
    refine (place E _ _ p ve _ k id l t.es hs2.p3.p3 hgt hv hlen (rises_sorted hso' _)).mono ?_
    rintro e w2 ⟨_, rfl, rfl, hs3⟩
    have hpos : pos (t.es.map fun x => ecmp x.kv (l, id)) = ea.length := X2.out.symm
    rw [hpos]
    generalize found (t.es.map fun x => ecmp x.kv (l, id)) = fo at *
    clear hs2 f0 f1 f2 f3 f4 hpos
    have qe := fun (W : World) n c => Lib.run_eql_slice_nil (P := Try.prog) W 62 55 none n c 0 0 Try.underlying62
    obtain ⟨p0, p1, p2, p3, p4⟩ := nd_cells hs3
    rw [X1.out] at hs3
    go_wp2_with fail
    refine wp_draw_lit [(0,3),(1,3),(2,3),(3,3),(4,0),(5,3),(6,0),(7,1),(8,2),(9,3),(10,3),(11,2)] (sat E · _) (by kernel_rfl) (by kernel_rfl) rfl hs3.drew ?_
    clear hs3 p0 p1 p2 p3 p4
    iterate 4 (refine wpD_pure _ rfl rfl rfl ?_; apply Exists.intro; refine ⟨fun w' => ?_, ?_, ?_⟩; (go_wp2; exact ⟨rfl, rfl, rfl⟩); rfl)
    (refine wpD_reads _ rfl rfl rfl ?_; apply Exists.intro; refine ⟨fun w' hK => ?_, ?_, ?_⟩; (obtain ⟨p0, p1, p2, p3, p4⟩ := nd_cells hK; go_wp2; exact ⟨rfl, rfl, rfl⟩); rfl)
    (refine wpD_pure _ rfl rfl rfl ?_; apply Exists.intro; refine ⟨fun w' => ?_, ?_, ?_⟩; (go_wp2; exact ⟨rfl, rfl, rfl⟩); rfl)
    (refine wpD_reads _ rfl rfl rfl ?_; apply Exists.intro; refine ⟨fun w' hK => ?_, ?_, ?_⟩; (obtain ⟨p0, p1, p2, p3, p4⟩ := entFacts _ hK.p3; go_wp2; exact ⟨rfl, rfl, rfl⟩); rfl)
    refine wpD_does (by decide) rfl rfl (fun Nx hNx w' hK => ?_)
    go_wp2_with fail
    refine ⟨rfl, (fun x => sat E x _), hK.alloc (.cells #[k, .int .i64 id] 35), fun _ x hx => hx.drop, hNx _ _ ?_⟩
    generalize w'.heap.size = b at *
    clear hK hNx
    refine wpD_does (by decide) rfl rfl (fun Nx hNx w' hK => ?_)
    go_wp2_with fail
    refine (insEnt E _ _ _ (ea ++ eb).length (entCells (ea ++ eb)) [k, .int .i64 id] ea.length b (by simp) (by rw [← X1.out]; omega) hK.p3 rfl (fun u hu => by simp at hu; rcases hu with rfl | rfl; exact vals_one hv; rfl) (entCells_one (X1.out ▸ hgt))).mono ?_
    rintro e w6 ⟨v', rfl, hnil, hs6⟩
    obtain ⟨g6, c6, rfl, _, _⟩ := row_some hs6 (by omega)
    rw [ents_put _ _ _ ⟨k, l, id⟩] at hs6
    generalize (ea ++ eb).length + 1 = n6 at *
    go_wp2_with fail
    refine ⟨rfl, (fun x => sat E x _), hs6.p3, fun h => (by cases h), hNx _ _ ?_⟩
    clear hs6 hnil hK hNx
    iterate 2 (refine wpD_pure _ rfl rfl rfl ?_; apply Exists.intro; refine ⟨fun w' => ?_, ?_, ?_⟩; (go_wp2; exact ⟨rfl, rfl, rfl⟩); rfl)
    refine wpD_does (by decide) rfl rfl (fun Nx hNx w' hK => ?_)
    obtain ⟨p0, p1, p2, p3, p4⟩ := nd_cells hK
    have hs7 := (nd_set0 (.slice (some ⟨g6, 0, none⟩) n6 c6) hK).p3.drop
    go_wp2_with fail
    refine ⟨rfl, (fun x => sat E x _), hs7, fun h => (by cases h), hNx _ _ ?_⟩
    clear hs7 hK hNx p0 p1 p2 p3 p4
    refine wpD_nil (fun w8 hK => ?_)
    have hR' := hR.out (.tuple #[]) _ ⟨rfl, put_leaf X1.out X3.out X4.out hK.p3.drop⟩
    clear hR hK X1 X2 X3 X4
    go_wp2_with fail
    exact bodyPost_ret (v := .tuple #[]) (by simp [results, Try.results34]) rfl hR'
  | succ d ih =>
    intro E w A p t e hs hv hg hok h6 hso hne
    refine ret_hide fun R hR => ?_
    obtain ⟨ea, eb, ka, q, tq, kb, rfl, hl, hl2, hpos, hh, ht⟩ := split_inner hok hso hne
    obtain ⟨k, l, id⟩ := e
    have hfl := flat_split (eb := eb) (kb := kb) (k := (q, tq)) hl
    have hsubq : (flat d tq).Sublist (flat (d + 1) (mk (ea ++ eb) (ka ++ (q, tq) :: kb))) := by
      rw [hfl]; exact (List.sublist_append_left _ _).trans (List.sublist_append_right _ _)
    have hsub := es_sub (d + 1) _ hok
    have hge : Env.goods E (ea ++ eb) := goods_sub hg hsub
    have hse : sorted (ea ++ eb) := sorted_sub hso hsub
    have hgq : Env.goods E (flat d tq) := goods_sub hg hsubq
    have hsq : sorted (flat d tq) := sorted_sub hso hsubq
    have hnq : ∀ x ∈ flat d tq, ecmp x.kv (⟨k, l, id⟩ : Ent).kv ≠ 0 := fun x hx => hne x (hsubq.subset hx)
    have hkok := ((ok_mk _ _).1 hok).2
    obtain ⟨hq3, hq7, hokq⟩ := hkok (q, tq) (by simp)
    have hother : ∀ k ∈ ka ++ kb, 3 ≤ k.2.es.length ∧ k.2.es.length ≤ 7 ∧ ok d k.2 := fun k hk => hkok k (by simp at hk ⊢; rcases hk with h | h <;> simp [h])
    have h6 : (ea ++ eb).length ≤ 6 := h6
    rw [List.length_append] at h6
    rw [mk_es] at hpos
    simp only at hq3 hq7 hokq
    obtain ⟨ve, vk, hs⟩ := open_node.1 hs
    obtain ⟨gk, ck, rfl, hck, _⟩ := row_some hs.p3 (by simp)
    generalize hN : (ka.map (·.1) ++ q :: kb.map (·.1)).length = N at *
    have hN' : N = ka.length + kb.length + 1 := by rw [← hN]; simp; omega
    have hs2 := hs.alloc (.cells #[k, .int .i64 id] 35)
    have I := Lib.hid ih
    have X1 := Lib.hid hl
    have X2 := Lib.hid hl2
    have X3 := Lib.hid hpos
    have X4 := Lib.hid hN
    have X5 := Lib.hid hN'
    have X6 := Lib.hid hfl
    have hcl : ea.length < N := by omega
    have hps : ∀ h, (ka.map (·.1) ++ q :: kb.map (·.1))[ea.length]'h = q := by intro h; simp [← hl]
    have X7 := Lib.hid hps
    have hlen : (ea ++ eb).length ≤ 10000 := by rw [List.length_append]; omega
    clear hl hl2 hpos hN hN' hfl ih hs hps
    unfold ptr
    have qe := fun (W : World) a n c => Lib.run_eql_slice_nil (P := Try.prog) W 62 55 a n c 0 0 Try.underlying62
    go_enter Try.func34, Try.ntmps34
    go_wp2_with fail
    generalize w.alloc (.cells #[k, .int .i64 id] 35) = w1 at *
    generalize w.heap.size = n at *
    obtain ⟨f0, f1, f2, f3, f4⟩ := entFacts _ hs2
    go_wp2_with fail
    refine (place E _ _ p ve _ k id l (ea ++ eb) hs2.p3.p3 hge hv hlen (rises_sorted hse _)).mono ?_
    rintro e w2 ⟨_, rfl, rfl, hs3⟩
    have hpos : pos ((ea ++ eb).map fun x => ecmp x.kv (l, id)) = ea.length := X3.out.symm
    rw [hpos]
    generalize found ((ea ++ eb).map fun x => ecmp x.kv (l, id)) = fo at *
    clear hs2 f0 f1 f2 f3 f4 hpos
    -- nd p * (ents * (pts n * (kids * (node q * (nodes ka * (nodes kb * A))))))
    obtain ⟨p0, p1, p2, p3, p4⟩ := nd_cells hs3
    have ck0 := kids_cell hs3.p4 ea.length (by have := X4.out; omega)
    rw [X7.out] at ck0
    unfold ptr at ck0
    obtain ⟨vq, kq, hsq'⟩ := sat_node.1 hs3.p5
    obtain ⟨gq, cq, rfl, hcq, _⟩ := row_some hsq'.p2 (by omega)
    obtain ⟨q0, q1, q2, q3, q4⟩ := nd_cells hsq'
    clear hsq'
    by_cases h7 : tq.es.length = 7
    · rw [h7] at q1
      have h7' := Lib.hid h7
      clear h7
      go_wp2_with fail
      refine (cut d E _ _ p q ve _ ea eb (ka.map (·.1)) (kb.map (·.1)) tq hs3.p3.r5 (by simpa using X1.out) h7'.out hokq (goods_sub hgq (es_sub d tq hokq)) hge (by have := X1.out; have := X2.out; simp; omega) (by omega)).mono ?_
      rintro e w3 ⟨_, rfl, rfl, q', ve', vk', m, t1, t2, n1, n2, ok1, ok2, hfq, hm, hs4⟩
      clear p0 p1 p2 p3 p4 ck0 q0 q1 q2 q3 q4 hs3
      obtain ⟨gk', ck', rfl, hck', _⟩ := row_some hs4.p3 (by simp)
      obtain ⟨ge', ce', rfl, hce', _⟩ := row_some hs4.p2 (by simp)
      generalize hN2 : (ka.map (·.1) ++ q :: q' :: kb.map (·.1)).length = N2 at *
      have hN2' : N2 = ka.length + kb.length + 2 := by rw [← hN2]; simp; omega
      generalize hM2 : (ea ++ m :: eb).length = M2 at *
      have hM2' : M2 = ea.length + eb.length + 1 := by rw [← hM2]; simp; omega
      have Y0 := Lib.hid hN2
      have Y1 := Lib.hid hN2'
      have Y2 := Lib.hid hM2
      have Y3 := Lib.hid hM2'
      have hi1 : ea.length < N2 := by have := X1.out; omega
      have hi2 : ea.length + 1 < N2 := by have := X1.out; omega
      have hi3 : ea.length < M2 := by omega
      have Y4 := Lib.hid n1
      have Y5 := Lib.hid n2
      have Y6 := Lib.hid hfq
      have hem : ∀ h, (ea ++ m :: eb)[ea.length]'h = m := by intro h; simp
      have Y7 := Lib.hid hem
      have hq1 : ∀ h, (ka.map (·.1) ++ q :: q' :: kb.map (·.1))[ea.length]'h = q := by intro h; simp [← X1.out]
      have hq2 : ∀ h, (ka.map (·.1) ++ q :: q' :: kb.map (·.1))[ea.length + 1]'h = q' := by
        intro h
        rw [List.getElem_append_right (by simp [X1.out])]
        simp [X1.out]
      have Y8 := Lib.hid hq1
      have Y9 := Lib.hid hq2
      clear hN2 hN2' hM2 hM2' n1 n2 hfq hem hq1 hq2
      go_wp2_with fail
      refine wp_draw_lit [(0,0),(1,3),(2,3),(3,3),(4,0),(5,3),(6,3),(7,0),(8,2),(9,3)] (sat E · _) (by kernel_rfl) (by kernel_rfl) rfl hs4.drew ?_
      clear hs4
      (refine wpD_reads _ rfl rfl rfl ?_; apply Exists.intro; refine ⟨fun w' hK => ?_, ?_, ?_⟩; (obtain ⟨p0, p1, p2, p3, p4⟩ := entFacts _ hK.p6; go_wp2; exact ⟨rfl, rfl, rfl⟩); rfl)
      iterate 3 (refine wpD_pure _ rfl rfl rfl ?_; apply Exists.intro; refine ⟨fun w' => ?_, ?_, ?_⟩; (go_wp2; exact ⟨rfl, rfl, rfl⟩); rfl)
      (refine wpD_reads _ rfl rfl rfl ?_; apply Exists.intro; refine ⟨fun w' hK => ?_, ?_, ?_⟩; (obtain ⟨p0, p1, p2, p3, p4⟩ := nd_cells hK; go_wp2; exact ⟨rfl, rfl, rfl⟩); rfl)
      iterate 2 (refine wpD_pure _ rfl rfl rfl ?_; apply Exists.intro; refine ⟨fun w' => ?_, ?_, ?_⟩; (go_wp2; exact ⟨rfl, rfl, rfl⟩); rfl)
      (refine wpD_reads _ rfl rfl rfl ?_; apply Exists.intro; refine ⟨fun w' hK => ?_, ?_, ?_⟩; (obtain ⟨p0, p1, p2, p3, p4⟩ := ents_cell hK.p2 ea.length (by have := Y2.out; omega); rw [Y7.out] at p1 p2; go_wp2; exact ⟨rfl, rfl, rfl⟩); rfl)
      refine wpD_does (by decide) rfl rfl (fun Nx hNx w' hK => ?_)
      go_wp2_with fail
      refine (entCompare E _ _ _ _ _ _ _ _ hK hv hm).mono ?_
      rintro e w4 ⟨_, rfl, rfl, hs4⟩
      go_wp2_with fail
      refine ⟨rfl, (fun x => sat E x _), hs4, fun h => (by cases h), hNx _ _ ?_⟩
      clear hs4 hK hNx
      (refine wpD_pure _ rfl rfl rfl ?_; apply Exists.intro; refine ⟨fun w' => ?_, ?_, ?_⟩; (go_wp2; exact ⟨rfl, rfl, rfl⟩); rfl)
      refine wpD_nil (fun w5 hs4 => ?_)
      have hmm : m ∈ flat d tq := by rw [Y6.out]; simp
      have hmne := hnq m hmm
      have hs1 : (flat d t1).Sublist (flat d tq) := by rw [Y6.out]; exact List.sublist_append_left _ _
      have hs2 : (flat d t2).Sublist (flat d tq) := by rw [Y6.out]; exact (List.sublist_cons_self _ _).trans (List.sublist_append_right _ _)
      have hso2 : sorted (flat d t1 ++ m :: flat d t2) := by rw [← Y6.out]; exact hsq
      have hfc := flat_cut (eb := eb) (kb := kb) (k := (q, tq)) (k1 := (q, t1)) (k2 := (q', t2)) X1.out Y6.out
      have Z1 := Lib.hid hfc
      clear hfc
      by_cases hz : 0 < ecmp (l, id) (m.l, m.id)
      · have hme : lt m ⟨k, l, id⟩ := cmp_pos.1 hz
        have H8 := hs4.p5.r4.p6.p4.p3.p4.r5
        clear hs4
        go_wp2_with fail
        
        refine wp_draw_lit [(0,3),(1,3),(2,3),(3,0),(4,3),(5,3),(6,0),(7,0),(8,2)] (sat E · _) (by kernel_rfl) (by kernel_rfl) rfl H8.drew ?_
        clear H8
        iterate 3 (refine wpD_pure _ rfl rfl rfl ?_; apply Exists.intro; refine ⟨fun w' => ?_, ?_, ?_⟩; (go_wp2; exact ⟨rfl, rfl, rfl⟩); rfl)
        (refine wpD_reads _ rfl rfl rfl ?_; apply Exists.intro; refine ⟨fun w' hK => ?_, ?_, ?_⟩; (obtain ⟨p0, p1, p2, p3, p4⟩ := nd_cells hK; go_wp2; exact ⟨rfl, rfl, rfl⟩); rfl)
        iterate 2 (refine wpD_pure _ rfl rfl rfl ?_; apply Exists.intro; refine ⟨fun w' => ?_, ?_, ?_⟩; (go_wp2; exact ⟨rfl, rfl, rfl⟩); rfl)
        (refine wpD_reads _ rfl rfl rfl ?_; apply Exists.intro; refine ⟨fun w' hK => ?_, ?_, ?_⟩; (have ck0 := kids_cell hK.p2 (ea.length + 1) (by have := Y0.out; omega); rw [Y9.out] at ck0; unfold ptr at ck0; go_wp2; exact ⟨rfl, rfl, rfl⟩); rfl)
        (refine wpD_reads _ rfl rfl rfl ?_; apply Exists.intro; refine ⟨fun w' hK => ?_, ?_, ?_⟩; (obtain ⟨p0, p1, p2, p3, p4⟩ := entFacts _ hK.p3; go_wp2; exact ⟨rfl, rfl, rfl⟩); rfl)
        refine wpD_does (by decide) rfl rfl (fun Nx hNx w' hK => ?_)
        go_wp2_with fail
        
        refine (I.out E w' _ q' t2 ⟨k, l, id⟩ hK.p4 hv (goods_sub hgq hs2) ok2 (by have := Y5.out; omega) (sorted_sub hsq hs2) (fun x hx => hnq x (hs2.subset hx))).mono ?_
        rintro e w6 ⟨_, rfl, rfl, hP⟩
        have hPP := puts_kid (p := p) (A := A) (t0 := mk (ea ++ eb) (ka ++ (q, tq) :: kb)) (ea := ea ++ [m]) (ka := ka ++ [(q, t1)]) hP (by simp [X1.out]) X2.out (heads_cut X1.out hh hso2 hme) ht
          (fun k hk => by
            simp only [List.append_assoc, List.mem_append, List.mem_singleton, List.singleton_append, List.mem_cons] at hk
            rcases hk with hk | rfl | hk
            · exact hother k (List.mem_append_left _ hk)
            · exact ⟨by simp only; have := Y4.out; omega, by simp only; have := Y4.out; omega, ok1⟩
            · exact hother k (List.mem_append_right _ hk))
          (by have := Y5.out; omega) (by have := Y5.out; omega) (by rw [← Z1.out]; simp) (by rw [mk_es]; simp) (by rw [mk_es]; simp; omega)
          (fun w t' h => open_node.2 ⟨_, _, h.p4.drop.r4.p3.p2.to (by simp only [List.map_append, List.map_cons, List.map_nil, List.append_assoc, List.cons_append, List.nil_append, nodes_append, nodes_cons, nodes_nil, sep_one]; ac_rfl)⟩)
        have hR' := hR.out _ _ ⟨rfl, hPP⟩
        clear hP hPP hR I hh ht
        go_wp2_with fail
        refine ⟨rfl, (fun x => x = w6), rfl, fun h => (by cases h), hNx _ _ ?_⟩
        refine wpD_nil (fun w8 hK8 => ?_)
        subst hK8
        exact bodyPost_end (v := .tuple #[]) (by simp [results, Try.results34]) rfl hR'
      · have hme : lt ⟨k, l, id⟩ m := by
          rcases lt_or hmne with h | h
          · exact absurd (cmp_pos.2 h) hz
          · exact h
        have H8 := hs4.p6.p4.p3.p4.r5
        clear hs4
        go_wp2_with fail
        
        refine wp_draw_lit [(0,3),(1,3),(2,3),(3,0),(4,3),(5,3),(6,0),(7,0),(8,2)] (sat E · _) (by kernel_rfl) (by kernel_rfl) rfl H8.drew ?_
        clear H8
        iterate 3 (refine wpD_pure _ rfl rfl rfl ?_; apply Exists.intro; refine ⟨fun w' => ?_, ?_, ?_⟩; (go_wp2; exact ⟨rfl, rfl, rfl⟩); rfl)
        (refine wpD_reads _ rfl rfl rfl ?_; apply Exists.intro; refine ⟨fun w' hK => ?_, ?_, ?_⟩; (obtain ⟨p0, p1, p2, p3, p4⟩ := nd_cells hK; go_wp2; exact ⟨rfl, rfl, rfl⟩); rfl)
        iterate 2 (refine wpD_pure _ rfl rfl rfl ?_; apply Exists.intro; refine ⟨fun w' => ?_, ?_, ?_⟩; (go_wp2; exact ⟨rfl, rfl, rfl⟩); rfl)
        (refine wpD_reads _ rfl rfl rfl ?_; apply Exists.intro; refine ⟨fun w' hK => ?_, ?_, ?_⟩; (have ck0 := kids_cell hK.p2 (ea.length) (by have := Y0.out; omega); rw [Y8.out] at ck0; unfold ptr at ck0; go_wp2; exact ⟨rfl, rfl, rfl⟩); rfl)
        (refine wpD_reads _ rfl rfl rfl ?_; apply Exists.intro; refine ⟨fun w' hK => ?_, ?_, ?_⟩; (obtain ⟨p0, p1, p2, p3, p4⟩ := entFacts _ hK.p3; go_wp2; exact ⟨rfl, rfl, rfl⟩); rfl)
        refine wpD_does (by decide) rfl rfl (fun Nx hNx w' hK => ?_)
        go_wp2_with fail
        
        refine (I.out E w' _ q t1 ⟨k, l, id⟩ hK.p4 hv (goods_sub hgq hs1) ok1 (by have := Y4.out; omega) (sorted_sub hsq hs1) (fun x hx => hnq x (hs1.subset hx))).mono ?_
        rintro e w6 ⟨_, rfl, rfl, hP⟩
        have hPP := puts_kid (p := p) (A := A) (t0 := mk (ea ++ eb) (ka ++ (q, tq) :: kb)) (eb := m :: eb) (kb := (q', t2) :: kb) hP X1.out (by simp [X2.out]) hh (tails_cut ht hso2 hme)
          (fun k hk => by
            simp only [List.mem_append, List.mem_cons] at hk
            rcases hk with hk | rfl | hk
            · exact hother k (List.mem_append_left _ hk)
            · exact ⟨by simp only; have := Y5.out; omega, by simp only; have := Y5.out; omega, ok2⟩
            · exact hother k (List.mem_append_right _ hk))
          (by have := Y4.out; omega) (by have := Y4.out; omega) Z1.out.symm (by rw [mk_es]; simp) (by rw [mk_es]; simp; omega)
          (fun w t' h => open_node.2 ⟨_, _, h.p4.drop.r4.p3.p2.to (by simp only [List.map_append, List.map_cons, List.map_nil, nodes_append, nodes_cons, nodes_nil, sep_one]; ac_rfl)⟩)
        have hR' := hR.out _ _ ⟨rfl, hPP⟩
        clear hP hPP hR I hh ht
        go_wp2_with fail
        refine ⟨rfl, (fun x => x = w6), rfl, fun h => (by cases h), hNx _ _ ?_⟩
        refine wpD_nil (fun w8 hK8 => ?_)
        subst hK8
        exact bodyPost_end (v := .tuple #[]) (by simp [results, Try.results34]) rfl hR'
    · have H8 := hs3.p4.p2.p3.r5
      go_wp2_with fail
      clear p0 p1 p2 p3 p4 ck0 q0 q1 q2 q3 q4

      refine wp_draw_lit [(0,3),(1,3),(2,3),(3,0),(4,3),(5,3),(6,0),(7,0),(8,2)] (sat E · _) (by kernel_rfl) (by kernel_rfl) rfl H8.drew ?_
      iterate 3 (refine wpD_pure _ rfl rfl rfl ?_; apply Exists.intro; refine ⟨fun w' => ?_, ?_, ?_⟩; (go_wp2; exact ⟨rfl, rfl, rfl⟩); rfl)
      (refine wpD_reads _ rfl rfl rfl ?_; apply Exists.intro; refine ⟨fun w' hK => ?_, ?_, ?_⟩; (obtain ⟨p0, p1, p2, p3, p4⟩ := nd_cells hK; go_wp2; exact ⟨rfl, rfl, rfl⟩); rfl)
      iterate 2 (refine wpD_pure _ rfl rfl rfl ?_; apply Exists.intro; refine ⟨fun w' => ?_, ?_, ?_⟩; (go_wp2; exact ⟨rfl, rfl, rfl⟩); rfl)
      (refine wpD_reads _ rfl rfl rfl ?_; apply Exists.intro; refine ⟨fun w' hK => ?_, ?_, ?_⟩; (have ck0 := kids_cell hK.p2 ea.length (by have := X4.out; omega); rw [X7.out] at ck0; unfold ptr at ck0; go_wp2; exact ⟨rfl, rfl, rfl⟩); rfl)
      (refine wpD_reads _ rfl rfl rfl ?_; apply Exists.intro; refine ⟨fun w' hK => ?_, ?_, ?_⟩; (obtain ⟨p0, p1, p2, p3, p4⟩ := entFacts _ hK.p3; go_wp2; exact ⟨rfl, rfl, rfl⟩); rfl)
      refine wpD_does (by decide) rfl rfl (fun Nx hNx w' hK => ?_)
      go_wp2_with fail

      refine (I.out E w' _ q tq ⟨k, l, id⟩ hK.p4 hv hgq hokq (by omega) hsq hnq).mono ?_
      rintro e w3 ⟨_, rfl, rfl, hP⟩
      have hPP := puts_kid (p := p) (t0 := mk (ea ++ eb) (ka ++ (q, tq) :: kb)) hP X1.out X2.out hh ht hother hq3 (by omega) rfl (Nat.le_refl _) (by rw [mk_es]; omega) (fun w t' h => open_node.2 ⟨_, _, h.p4.drop.r4.p3.p2⟩)
      have hR' := hR.out _ _ ⟨rfl, hPP⟩
      clear hP hPP hR I hh ht
      go_wp2_with fail
      refine ⟨rfl, (fun x => x = w3), rfl, fun h => (by cases h), hNx _ _ ?_⟩
      refine wpD_nil (fun w8 hK8 => ?_)
      subst hK8
      exact bodyPost_end (v := .tuple #[]) (by simp [results, Try.results34]) rfl hR'

end Go.Proofs.Ytmibiaakppkmmaa
