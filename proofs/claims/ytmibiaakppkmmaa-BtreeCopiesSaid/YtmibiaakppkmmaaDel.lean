/- An entry is taken away under a node. -/
import Derived.Test.YtmibiaakppkmmaaDel0
namespace Go.Proofs.Ytmibiaakppkmmaa
open Go.RowKit Go.Sep
set_option linter.unusedVariables false
set_option linter.unusedSimpArgs false

theorem kid_at {E : Env} {W : World} {X : Asn} {gk N ck i q : Nat} {la lb : List Nat} (h : sat E W (kids (.slice (some ⟨gk, 0, none⟩) N ck) (la ++ q :: lb) * X)) (hl : la.length = i) : W.cell? ⟨gk, i, none⟩ = some (ptr q) := by
  subst hl
  have := kids_cell h la.length (by simp)
  simpa using this

theorem ent_at {E : Env} {W : World} {X : Asn} {g N c : Nat} {ea eb : List Ent} {y : Ent} (h : sat E W (ents (.slice (some ⟨g, 0, none⟩) N c) (ea ++ y :: eb) * X)) :
    g < W.heap.size ∧ W.cell? ⟨g, ea.length * 2, none⟩ = some y.k ∧ W.cell? ⟨g, ea.length * 2 + 1, none⟩ = some (.int .i64 y.id) ∧ W.frozen? ⟨g, ea.length * 2, none⟩ = false ∧ W.frozen? ⟨g, ea.length * 2 + 1, none⟩ = false := by
  have := ents_cell h ea.length (by simp)
  simpa using this

theorem ents_len {E : Env} {W : World} {X : Asn} {g N c : Nat} {es : List Ent} (h : sat E W (ents (.slice (some ⟨g, 0, none⟩) N c) es * X)) : es.length = N := by
  rcases sat.ents h with ⟨_, h, _⟩ | ⟨g', cap', cur, hv, _⟩
  · cases h
  · injection hv with _ e2 _
    exact e2.symm
theorem kids_len {E : Env} {W : World} {X : Asn} {g N c : Nat} {ps : List Nat} (h : sat E W (kids (.slice (some ⟨g, 0, none⟩) N c) ps * X)) : ps.length = N := by
  obtain ⟨hl, ⟨hb, _⟩ | ⟨g', cap', cur, hv, _⟩⟩ := h.row
  · cases hb
  · injection hv with _ e2 _
    exact e2.symm

theorem lst_mem {l : List Ent} {y : Ent} (h : Lst l y) : y ∈ l := by obtain ⟨i, rfl⟩ := h; simp

theorem kid_sorted {d : Nat} {t : T (d + 1)} (hso : sorted (flat (d + 1) t)) (hok : ok (d + 1) t) : ∀ k ∈ t.ks, sorted (flat d k.2) := by
  intro k hk
  obtain ⟨a, b, hab⟩ := List.append_of_mem hk
  have hl : t.ks.length = t.es.length + 1 := hok.1
  have h2 : (t.es.take a.length).length = a.length := by rw [List.length_take, Nat.min_eq_left]; rw [hab] at hl; simp at hl; omega
  have h3 : flat (d + 1) t = heads (flats d a) (t.es.take a.length) ++ (flat d k.2 ++ tails (t.es.drop a.length) (flats d b)) := by
    have := flat_split (ea := t.es.take a.length) (eb := t.es.drop a.length) (ka := a) (kb := b) (k := k) h2.symm
    rw [List.take_append_drop, ← hab] at this
    exact this
  rw [h3] at hso
  exact (sorted_append.1 (sorted_append.1 hso).2.1).1

set_option maxRecDepth 100000 in
set_option maxHeartbeats 4000000 in
theorem del (d : Nat) : ∀ (E : Env) (w : World) (A : Asn) (p : Nat) (t : T d) (e : Ent) (hs : sat E w (node d p t * A)) (hv : E.vals e.k e.l) (hg : Env.goods E (flat d t)) (hok : ok d t) (h1 : 1 ≤ t.es.length) (h7 : t.es.length ≤ 7) (hso : sorted (flat d t)) (hin : inn e (flat d t)),
    Calls Try.prog 32 #[ptr p, .agg #[e.k, .int .i64 e.id]] w (Ret fun r w' => r = .tuple #[] ∧ ∃ t', Dels d t.es.length (flat d t) e t' ∧ sat E w' (node d p t' * A)) := by
  induction d with
  | zero =>
    intro E w A p t e hs hv hg hok h1 h7 hso hin
    refine ret_hide fun R hR => ?_
    obtain ⟨k, lk, id⟩ := e
    obtain ⟨ve, vk, hs⟩ := sat_node.1 hs
    obtain ⟨rfl, hs⟩ := sat_under_zero.1 hs.p3
    have hso' : sorted t.es := hso
    obtain ⟨ea, eb, hes, hea, ha, hb⟩ := pos_split (es := t.es) hso' ⟨k, lk, id⟩
    obtain ⟨y, eb, rfl, hy, hgt2⟩ : ∃ y eb', eb = y :: eb' ∧ y.kv = (⟨k, lk, id⟩ : Ent).kv ∧ ∀ x ∈ eb', lt ⟨k, lk, id⟩ x := by
      rcases hb with ⟨_, h⟩ | ⟨_, hb⟩
      · exact h
      · rw [flat_leaf, hes, inn_append] at hin
        rcases hin with h | h
        · exact absurd h (not_inn_lt ha)
        · exact absurd h (not_inn_gt hb)
    have hgt : Env.goods E t.es := hg
    have hlen2 : t.es.length = ea.length + eb.length + 1 := by rw [hes]; simp; omega
    have hel : ea.length + 1 ≤ t.es.length := by omega
    have hlen : t.es.length ≤ 10000 := by omega
    have hs2 := hs.alloc (.cells #[k, .int .i64 id] 35)
    have X1 := Lib.hid hes
    have X2 := Lib.hid hea
    have X3 := Lib.hid hy
    replace hlen2 := Lib.hid hlen2
    clear hg hin hes hea ha hb hs hgt2 hy
    unfold ptr
    go_enter Try.func32, Try.ntmps32
    go_wp2_with fail
    generalize w.alloc (.cells #[k, .int .i64 id] 35) = w1 at *
    generalize w.heap.size = n at *
    obtain ⟨f0, f1, f2, f3, f4⟩ := entFacts _ hs2
    go_wp2_with fail
    refine (place E _ _ p ve _ k id lk t.es hs2.p3.p3 hgt hv hlen (rises_sorted hso' _)).mono ?_
    rintro e w2 ⟨_, rfl, rfl, hs3⟩
    have hpos : pos (t.es.map fun x => ecmp x.kv (lk, id)) = ea.length := X2.out.symm
    rw [hpos]
    generalize found (t.es.map fun x => ecmp x.kv (lk, id)) = fo at *
    clear hs2 f0 f1 f2 f3 f4 hpos
    obtain ⟨g, cap, rfl, hcap, _⟩ := row_some hs3.p2 (by omega)
    have qe := fun (W : World) n c => Lib.run_eql_slice_nil (P := Try.prog) W 62 55 none n c 0 0 Try.underlying62
    obtain ⟨p0, p1, p2, p3, p4⟩ := nd_cells hs3
    have hcall := delEnt E _ _ _ t.es.length (entCells t.es) ea.length (ea.length + 1) (by omega) (by omega) (by omega) hs3.p2 (entCells_one hgt)
    rw [show ((ea.length + 1 : Nat) : Int) = (ea.length : Int) + 1 from rfl] at hcall
    replace hcall := Lib.hid hcall
    go_wp2_with fail
    refine hcall.out.mono ?_
    rintro e w4 ⟨v', rfl, hnn, hs4⟩
    have hs5 := row_ents (es := ea ++ eb) hs4 (by rw [X1.out]; exact ents_del ea eb y) (by have := hlen2.out; rw [List.length_append]; omega)
    obtain ⟨g5, c5, rfl, _⟩ := row_some2 hs4 hnn
    generalize t.es.length - (ea.length + 1 - ea.length) = N5 at *
    clear hcall hs4 hnn p0 p1 p2 p3 p4 hs3
    obtain ⟨p0, p1, p2, p3, p4⟩ := nd_cells hs5.p2
    have hs6 := nd_set0 (.slice (some ⟨g5, 0, none⟩) N5 c5) hs5.p2
    have hfin := sat_node (t := leaf (ea ++ eb)).2 ⟨_, _, (sat_under_zero (t := leaf (ea ++ eb)).2 ⟨rfl, hs6.p3.drop⟩).r3⟩
    have hR' := hR.out (.tuple #[]) _ ⟨rfl, leaf (ea ++ eb), ⟨ea, y, eb, by rw [flat_leaf, X1.out], X3.out, rfl, trivial, by rw [leaf_es, List.length_append]; have := hlen2.out; omega, by rw [leaf_es, List.length_append]; have := hlen2.out; omega⟩, hfin⟩
    clear hR hs5 hs6 hfin X1 X2 X3
    go_wp2_with fail
    exact bodyPost_end (v := .tuple #[]) (by simp [results, Try.results32]) rfl hR'
  | succ d ih =>
    intro E w A p t e hs hv hg hok h1 h7 hso hin
    refine ret_hide fun R hR => ?_
    obtain ⟨k, lk, id⟩ := e
    have hgt : Env.goods E t.es := es_goods hg hok
    have hss : sorted t.es := sorted_sub hso (es_sub _ t hok)
    have hs2 := hs.alloc (.cells #[k, .int .i64 id] 35)
    have hlen : t.es.length ≤ 10000 := by omega
    have hkg := kid_goods hg hok
    have hokk : ∀ k ∈ t.ks, okT k.2 := ((ok_succ t).1 hok).2
    have hkso : ∀ k ∈ t.ks, sorted (flat d k.2) := fun k hk => kid_sorted hso hok k hk
    have qe := fun (W : World) a n c => Lib.run_eql_slice_nil (P := Try.prog) W 62 55 a n c 0 0 Try.underlying62
    have hR1 := fun w' t' (h : Dels (d + 1) t.es.length (flat (d + 1) t) ⟨k, lk, id⟩ t') (h' : sat E w' (node (d + 1) p t' * A)) => hR.out (.tuple #[]) w' ⟨rfl, t', h, h'⟩
    replace hR1 := Lib.hid hR1
    clear hR hs
    by_cases hf : found (t.es.map fun x => ecmp x.kv (⟨k, lk, id⟩ : Ent).kv) = true
    · obtain ⟨ea, y, eb, ka, q, tq, kb, rfl, hl, hl2, hpos, hy, hh, hqlt, rest, htl, hrest⟩ := split_here hok hso hf
      rw [mk_es] at *
      rw [mk_ks] at *
      have oq : okT tq := hokk (q, tq) (by simp)
      have gq : Env.goods E (flat d tq) := hkg (q, tq) (by simp)
      have sq : sorted (flat d tq) := hkso (q, tq) (by simp)
      have hle : ea.length + 1 ≤ (ea ++ y :: eb).length := by simp
      have hlk : ea.length + 2 ≤ (ka.map (·.1) ++ q :: kb.map (·.1)).length := by simp; omega
      replace hpos := Lib.hid hpos
      replace hf := Lib.hid hf
      replace hy := Lib.hid hy
      replace hh := Lib.hid hh
      replace hqlt := Lib.hid hqlt
      replace htl := Lib.hid htl
      replace hrest := Lib.hid hrest
      replace hl := Lib.hid hl
      replace hl2 := Lib.hid hl2
      replace hkg := Lib.hid hkg
      replace hokk := Lib.hid hokk
      replace hkso := Lib.hid hkso
      replace hok := Lib.hid hok
      replace hso := Lib.hid hso
      replace hg := Lib.hid hg
      replace hin := Lib.hid hin
      have hkl : Hid ((ka.map (·.1)).length = ea.length) := by show _ = _; rw [List.length_map]; exact hl.out
      unfold ptr
      go_enter Try.func32, Try.ntmps32
      go_wp2_with fail
      generalize w.alloc (.cells #[k, .int .i64 id] 35) = w1 at *
      generalize w.heap.size = n at *
      obtain ⟨ve, vk, hU⟩ := open_node.1 hs2.p2
      clear hs2
      obtain ⟨g, cap, rfl, hcap, _⟩ := row_some hU.p2 (by omega)
      obtain ⟨gk, ck, rfl, hck, _⟩ := row_some hU.p3 (by simp)
      generalize hNe : (ea ++ y :: eb).length = Ne at *
      generalize hNk : (ka.map (·.1) ++ q :: kb.map (·.1)).length = Nk at *
      replace hNe := Lib.hid hNe
      replace hNk := Lib.hid hNk
      obtain ⟨f0, f1, f2, f3, f4⟩ := entFacts _ hU.p7
      go_wp2_with fail
      refine (place E _ _ p _ _ k id lk (ea ++ y :: eb) hU hgt hv (by rw [hNe.out]; exact hlen) (rises_sorted hss _)).mono ?_
      rintro e w2 ⟨_, rfl, rfl, hU2⟩
      clear hU f0 f1 f2 f3 f4
      have hpp : pos ((ea ++ y :: eb).map fun x => ecmp x.kv (lk, id)) = ea.length := hpos.out.symm
      have hff : found ((ea ++ y :: eb).map fun x => ecmp x.kv (lk, id)) = true := hf.out
      rw [hff, hpp]
      clear hff hpp
      obtain ⟨p0, p1, p2, p3, p4⟩ := nd_cells hU2
      have kci := kid_at hU2.p3 hkl.out
      unfold ptr at kci
      obtain ⟨gq', cq, lq0, lq1⟩ := node_len hU2.p4 (by have := oq.1; omega)
      by_cases hbig : 3 < tq.es.length
      · have hbig' : (3 : Int) < tq.es.length := by omega
        obtain ⟨z, hz⟩ := lst_of_ne (flat_ne oq.2.2 (by have := oq.1; omega))
        have hgz : E.vals z.k z.l := gq z (lst_mem hz)
        have hU := hU2
        go_wp2_with fail
        clear p0 p1 p2 p3 p4 kci lq0 lq1 hU2
        refine wp_draw_lit [(0,3),(1,3),(2,3),(3,0),(4,3),(5,3),(6,3),(7,3),(8,0),(9,3),(10,3),(11,0),(12,1),(13,3),(14,2)] (sat E · _) (by kernel_rfl) (by kernel_rfl) rfl hU.drew ?_
        clear hU
        iterate 3 (refine wpD_pure _ rfl rfl rfl ?_; apply Exists.intro; refine ⟨fun w' => ?_, ?_, ?_⟩; (go_wp2; exact ⟨rfl, rfl, rfl⟩); rfl)
        (refine wpD_reads _ rfl rfl rfl ?_; apply Exists.intro; refine ⟨fun w' hK => ?_, ?_, ?_⟩; (obtain ⟨p0, p1, p2, p3, p4⟩ := nd_cells hK; go_wp2; exact ⟨rfl, rfl, rfl⟩); rfl)
        iterate 4 (refine wpD_pure _ rfl rfl rfl ?_; apply Exists.intro; refine ⟨fun w' => ?_, ?_, ?_⟩; (go_wp2; exact ⟨rfl, rfl, rfl⟩); rfl)
        (refine wpD_reads _ rfl rfl rfl ?_; apply Exists.intro; refine ⟨fun w' hK => ?_, ?_, ?_⟩; (obtain ⟨p0, p1, p2, p3, p4⟩ := nd_cells hK; go_wp2; exact ⟨rfl, rfl, rfl⟩); rfl)
        iterate 2 (refine wpD_pure _ rfl rfl rfl ?_; apply Exists.intro; refine ⟨fun w' => ?_, ?_, ?_⟩; (go_wp2; exact ⟨rfl, rfl, rfl⟩); rfl)
        (refine wpD_reads _ rfl rfl rfl ?_; apply Exists.intro; refine ⟨fun w' hK => ?_, ?_, ?_⟩; (have p0 := kid_at hK.p3 hkl.out; unfold ptr at p0; go_wp2; exact ⟨rfl, rfl, rfl⟩); rfl)
        refine wpD_does (by decide) rfl rfl (fun Nx hNx w' hK => ?_)
        go_wp2_with fail
        refine (last d E _ _ q tq z hK.p4 oq.2.2 (by have := oq.1; omega) (by have := oq.2.1; omega) hz hgz).mono ?_
        rintro e w3 ⟨_, rfl, rfl, hs3⟩
        go_wp2_with fail
        refine ⟨rfl, (fun x => sat E x _), hs3.r4, fun _ x hx => hx, hNx _ _ ?_⟩
        clear hs3 hK hNx
        iterate 1 (refine wpD_pure _ rfl rfl rfl ?_; apply Exists.intro; refine ⟨fun w' => ?_, ?_, ?_⟩; (go_wp2; exact ⟨rfl, rfl, rfl⟩); rfl)
        refine wpD_does (by decide) rfl rfl (fun Nx hNx w' hK => ?_)
        obtain ⟨p0, p1, p2, p3, p4⟩ := ent_at hK.p2
        have hs9 := (ents_store z (ents_len hK.p2) hK.p2).p2
        obtain ⟨azk, czk, hzk⟩ := hgz.slice
        rw [hzk] at hs9
        go_wp2_with fail
        refine ⟨rfl, (fun x => sat E x _), hs9, fun h => (by cases h), hNx _ _ ?_⟩
        clear hs9 hK hNx p0 p1 p2 p3 p4 hzk
        refine wpD_nil (fun w4 hU => ?_)
        go_wp2_with fail
        refine wp_draw_lit [(0,3),(1,3),(2,3),(3,0),(4,3),(5,3),(6,0),(7,3),(8,3),(9,3),(10,0),(11,3),(12,3),(13,0),(14,2)] (sat E · _) (by kernel_rfl) (by kernel_rfl) rfl hU.drew ?_
        clear hU
        iterate 3 (refine wpD_pure _ rfl rfl rfl ?_; apply Exists.intro; refine ⟨fun w' => ?_, ?_, ?_⟩; (go_wp2; exact ⟨rfl, rfl, rfl⟩); rfl)
        (refine wpD_reads _ rfl rfl rfl ?_; apply Exists.intro; refine ⟨fun w' hK => ?_, ?_, ?_⟩; (obtain ⟨p0, p1, p2, p3, p4⟩ := nd_cells hK; go_wp2; exact ⟨rfl, rfl, rfl⟩); rfl)
        iterate 2 (refine wpD_pure _ rfl rfl rfl ?_; apply Exists.intro; refine ⟨fun w' => ?_, ?_, ?_⟩; (go_wp2; exact ⟨rfl, rfl, rfl⟩); rfl)
        (refine wpD_reads _ rfl rfl rfl ?_; apply Exists.intro; refine ⟨fun w' hK => ?_, ?_, ?_⟩; (have p0 := kid_at hK.p3 hkl.out; unfold ptr at p0; go_wp2; exact ⟨rfl, rfl, rfl⟩); rfl)
        iterate 3 (refine wpD_pure _ rfl rfl rfl ?_; apply Exists.intro; refine ⟨fun w' => ?_, ?_, ?_⟩; (go_wp2; exact ⟨rfl, rfl, rfl⟩); rfl)
        (refine wpD_reads _ rfl rfl rfl ?_; apply Exists.intro; refine ⟨fun w' hK => ?_, ?_, ?_⟩; (obtain ⟨p0, p1, p2, p3, p4⟩ := nd_cells hK; go_wp2; exact ⟨rfl, rfl, rfl⟩); rfl)
        iterate 2 (refine wpD_pure _ rfl rfl rfl ?_; apply Exists.intro; refine ⟨fun w' => ?_, ?_, ?_⟩; (go_wp2; exact ⟨rfl, rfl, rfl⟩); rfl)
        (refine wpD_reads _ rfl rfl rfl ?_; apply Exists.intro; refine ⟨fun w' hK => ?_, ?_, ?_⟩; (obtain ⟨p0, p1, p2, p3, p4⟩ := ent_at hK.p2; go_wp2; exact ⟨rfl, rfl, rfl⟩); rfl)
        refine wpD_does (by decide) rfl rfl (fun Nx hNx w' hK => ?_)
        go_wp2_with fail
        refine (ih E _ _ q tq z hK.p4 hgz gq oq.2.2 (by have := oq.1; omega) oq.2.1 sq ⟨z, lst_mem hz, rfl⟩).mono ?_
        rintro e w5 ⟨_, rfl, rfl, tz, hdz, hs5⟩
        go_wp2_with fail
        refine ⟨rfl, (fun x => sat E x _), hs5, fun h => (by cases h), hNx _ _ ?_⟩
        clear hs5 hK hNx
        refine wpD_nil (fun w6 hK => ?_)
        have hR' := hR1.out _ _ (hNe.out ▸ dels_swap hl.out hl2.out hok.out hso.out hy.out hbig (by rw [hNe.out]; exact h7) (Nat.le_succ _) hz hdz) (open_node.2 ⟨_, _, hK.p7.drop.r4⟩)
        clear hR1 hK
        go_wp2_with fail
        exact bodyPost_end (v := .tuple #[]) (by simp [results, Try.results32]) rfl hR'
      · have hq3 : tq.es.length = 3 := by have := oq.1; omega
        have hbig' : ¬ ((3 : Int) < tq.es.length) := by omega
        rw [hq3] at lq1
        have hs3 := open_node.2 ⟨_, _, hU2⟩
        replace hq3 := Lib.hid hq3
        have hcall := ready d E _ _ p q ea (y :: eb) ka kb tq hs3 hok.out hl.out (by simpa using hl2.out) (by rw [hNe.out]; exact h1) (by rw [hNe.out]; exact h7) hg.out
        clear hs3 hU2
        unfold ptr at hcall
        replace hcall := Lib.hid hcall
        go_wp2_with fail
        refine hcall.out.mono ?_
        rintro e w3 ⟨_, rfl, ea', eb', ka', q', tq', kb', rfl, hrd, hs4⟩
        clear hcall p0 p1 p2 p3 p4 kci lq0 lq1
        have hfl := rdy_flat (q := q) (q' := q') hrd hl.out
        have hok1 := rdy_ok (q' := q') hrd
        have hso1 : sorted (flat (d + 1) (mk (ea' ++ eb') (ka' ++ (q', tq') :: kb'))) := by rw [hfl]; exact hso.out
        have hg1 : Env.goods E (flat (d + 1) (mk (ea' ++ eb') (ka' ++ (q', tq') :: kb'))) := by rw [hfl]; exact hg.out
        have oq1 : okT tq' := hrd.kq
        have gq1 : Env.goods E (flat d tq') := kid_goods hg1 hok1 (q', tq') (by rw [mk_ks]; simp)
        have sq1 : sorted (flat d tq') := kid_sorted hso1 hok1 (q', tq') (by rw [mk_ks]; simp)
        have hle1 : (ea' ++ eb').length ≤ Ne := by have := hrd.le; rw [hNe.out] at this; exact this
        have hge1 : Ne ≤ (ea' ++ eb').length + 1 := by have := hrd.ge; rw [hNe.out] at this; exact this
        have hkl1 : Hid ((ka'.map (·.1)).length = ea'.length) := by show _ = _; rw [List.length_map]; exact hrd.la
        replace hrd := Lib.hid hrd
        replace hfl := Lib.hid hfl
        replace hok1 := Lib.hid hok1
        replace hso1 := Lib.hid hso1
        replace hg1 := Lib.hid hg1
        obtain ⟨ve1, vk1, hU⟩ := open_node.1 hs4
        clear hs4
        obtain ⟨gk1, ck1, rfl, hck1, _⟩ := row_some hU.p3 (by simp)
        obtain ⟨hpl1, hpl2⟩ := rdy_place hrd.out hh.out htl.out hrest.out hy.out
        have hgt1 : Env.goods E (ea' ++ eb') := es_goods hg1.out hok1.out
        have hss1 : sorted (ea' ++ eb') := sorted_sub hso1.out (es_sub _ _ hok1.out)
        have hbb : eb' = [] ∨ ∃ y eb2, eb' = y :: eb2 ∧ ¬ lt y (⟨k, lk, id⟩ : Ent) := by
          rcases hpl2 with ⟨eb2, h⟩ | ⟨h, _⟩
          · exact .inr ⟨y, eb2, h, not_lt_kv hy.out⟩
          · cases eb' with
            | nil => exact .inl rfl
            | cons a l => exact .inr ⟨a, l, rfl, fun h2 => not_lt_self _ (lt_trans h2 (h a (by simp)))⟩
        have hpos1 := pos_here hpl1 hbb
        have hfd1 := found_here hpl1 hbb
        replace hpl1 := Lib.hid hpl1
        replace hpl2 := Lib.hid hpl2
        replace hbb := Lib.hid hbb
        replace hpos1 := Lib.hid hpos1
        replace hfd1 := Lib.hid hfd1
        obtain ⟨f0, f1, f2, f3, f4⟩ := entFacts _ hU.p7
        go_wp2_with fail
        refine (place E _ _ p _ _ k id lk (ea' ++ eb') hU hgt1 hv (by omega) (rises_sorted hss1 _)).mono ?_
        rintro e w4 ⟨_, rfl, rfl, hU2⟩
        clear hU f0 f1 f2 f3 f4
        have hpp : pos ((ea' ++ eb').map fun x => ecmp x.kv (lk, id)) = ea'.length := hpos1.out
        rw [hpp]
        clear hpp
        rcases hpl2.out with ⟨eb2, rfl⟩ | ⟨hgt2, hyin⟩
        · have hff : found ((ea' ++ y :: eb2).map fun x => ecmp x.kv (lk, id)) = true := hfd1.out.2 ⟨y, eb2, rfl, hy.out⟩
          rw [hff]
          obtain ⟨g1, cap1, rfl, hcap1, _⟩ := row_some hU2.p2 (by simp)
          have hel1 : ea'.length + 1 ≤ (ea' ++ y :: eb2).length := by simp
          have hek1 : ea'.length + 1 ≤ (ka'.map (·.1) ++ q' :: kb'.map (·.1)).length := by rw [List.length_append, hkl1.out]; simp <;> omega
          generalize hNe1 : (ea' ++ y :: eb2).length = Ne1 at *
          generalize hNk1 : (ka'.map (·.1) ++ q' :: kb'.map (·.1)).length = Nk1 at *
          replace hNe1 := Lib.hid hNe1
          replace hNk1 := Lib.hid hNk1
          obtain ⟨z, hz⟩ := lst_of_ne (flat_ne oq1.2.2 (by have := oq1.1; omega))
          have hgz : E.vals z.k z.l := gq1 z (lst_mem hz)
          have hU := hU2
          clear hff hU2 hfd1 hbb hpos1
          go_wp2_with fail
          refine wp_draw_lit [(0,3),(1,3),(2,3),(3,0),(4,3),(5,3),(6,3),(7,3),(8,0),(9,3),(10,3),(11,0),(12,1),(13,3),(14,2)] (sat E · _) (by kernel_rfl) (by kernel_rfl) rfl hU.drew ?_
          clear hU
          iterate 3 (refine wpD_pure _ rfl rfl rfl ?_; apply Exists.intro; refine ⟨fun w' => ?_, ?_, ?_⟩; (go_wp2; exact ⟨rfl, rfl, rfl⟩); rfl)
          (refine wpD_reads _ rfl rfl rfl ?_; apply Exists.intro; refine ⟨fun w' hK => ?_, ?_, ?_⟩; (obtain ⟨p0, p1, p2, p3, p4⟩ := nd_cells hK; go_wp2; exact ⟨rfl, rfl, rfl⟩); rfl)
          iterate 4 (refine wpD_pure _ rfl rfl rfl ?_; apply Exists.intro; refine ⟨fun w' => ?_, ?_, ?_⟩; (go_wp2; exact ⟨rfl, rfl, rfl⟩); rfl)
          (refine wpD_reads _ rfl rfl rfl ?_; apply Exists.intro; refine ⟨fun w' hK => ?_, ?_, ?_⟩; (obtain ⟨p0, p1, p2, p3, p4⟩ := nd_cells hK; go_wp2; exact ⟨rfl, rfl, rfl⟩); rfl)
          iterate 2 (refine wpD_pure _ rfl rfl rfl ?_; apply Exists.intro; refine ⟨fun w' => ?_, ?_, ?_⟩; (go_wp2; exact ⟨rfl, rfl, rfl⟩); rfl)
          (refine wpD_reads _ rfl rfl rfl ?_; apply Exists.intro; refine ⟨fun w' hK => ?_, ?_, ?_⟩; (have p0 := kid_at hK.p3 hkl1.out; unfold ptr at p0; go_wp2; exact ⟨rfl, rfl, rfl⟩); rfl)
          refine wpD_does (by decide) rfl rfl (fun Nx hNx w' hK => ?_)
          go_wp2_with fail
          refine (last d E _ _ q' tq' z hK.p4 oq1.2.2 (by have := oq1.1; omega) (by have := oq1.2.1; omega) hz hgz).mono ?_
          rintro e w3 ⟨_, rfl, rfl, hs3⟩
          go_wp2_with fail
          refine ⟨rfl, (fun x => sat E x _), hs3.r4, fun _ x hx => hx, hNx _ _ ?_⟩
          clear hs3 hK hNx
          iterate 1 (refine wpD_pure _ rfl rfl rfl ?_; apply Exists.intro; refine ⟨fun w' => ?_, ?_, ?_⟩; (go_wp2; exact ⟨rfl, rfl, rfl⟩); rfl)
          refine wpD_does (by decide) rfl rfl (fun Nx hNx w' hK => ?_)
          obtain ⟨p0, p1, p2, p3, p4⟩ := ent_at hK.p2
          have hs9 := (ents_store z (ents_len hK.p2) hK.p2).p2
          obtain ⟨azk, czk, hzk⟩ := hgz.slice
          rw [hzk] at hs9
          go_wp2_with fail
          refine ⟨rfl, (fun x => sat E x _), hs9, fun h => (by cases h), hNx _ _ ?_⟩
          clear hs9 hK hNx p0 p1 p2 p3 p4 hzk
          refine wpD_nil (fun w4 hU => ?_)
          go_wp2_with fail
          refine wp_draw_lit [(0,3),(1,3),(2,3),(3,0),(4,3),(5,3),(6,0),(7,3),(8,3),(9,3),(10,0),(11,3),(12,3),(13,0),(14,2)] (sat E · _) (by kernel_rfl) (by kernel_rfl) rfl hU.drew ?_
          clear hU
          iterate 3 (refine wpD_pure _ rfl rfl rfl ?_; apply Exists.intro; refine ⟨fun w' => ?_, ?_, ?_⟩; (go_wp2; exact ⟨rfl, rfl, rfl⟩); rfl)
          (refine wpD_reads _ rfl rfl rfl ?_; apply Exists.intro; refine ⟨fun w' hK => ?_, ?_, ?_⟩; (obtain ⟨p0, p1, p2, p3, p4⟩ := nd_cells hK; go_wp2; exact ⟨rfl, rfl, rfl⟩); rfl)
          iterate 2 (refine wpD_pure _ rfl rfl rfl ?_; apply Exists.intro; refine ⟨fun w' => ?_, ?_, ?_⟩; (go_wp2; exact ⟨rfl, rfl, rfl⟩); rfl)
          (refine wpD_reads _ rfl rfl rfl ?_; apply Exists.intro; refine ⟨fun w' hK => ?_, ?_, ?_⟩; (have p0 := kid_at hK.p3 hkl1.out; unfold ptr at p0; go_wp2; exact ⟨rfl, rfl, rfl⟩); rfl)
          iterate 3 (refine wpD_pure _ rfl rfl rfl ?_; apply Exists.intro; refine ⟨fun w' => ?_, ?_, ?_⟩; (go_wp2; exact ⟨rfl, rfl, rfl⟩); rfl)
          (refine wpD_reads _ rfl rfl rfl ?_; apply Exists.intro; refine ⟨fun w' hK => ?_, ?_, ?_⟩; (obtain ⟨p0, p1, p2, p3, p4⟩ := nd_cells hK; go_wp2; exact ⟨rfl, rfl, rfl⟩); rfl)
          iterate 2 (refine wpD_pure _ rfl rfl rfl ?_; apply Exists.intro; refine ⟨fun w' => ?_, ?_, ?_⟩; (go_wp2; exact ⟨rfl, rfl, rfl⟩); rfl)
          (refine wpD_reads _ rfl rfl rfl ?_; apply Exists.intro; refine ⟨fun w' hK => ?_, ?_, ?_⟩; (obtain ⟨p0, p1, p2, p3, p4⟩ := ent_at hK.p2; go_wp2; exact ⟨rfl, rfl, rfl⟩); rfl)
          refine wpD_does (by decide) rfl rfl (fun Nx hNx w' hK => ?_)
          go_wp2_with fail
          refine (ih E _ _ q' tq' z hK.p4 hgz gq1 oq1.2.2 (by have := oq1.1; omega) oq1.2.1 sq1 ⟨z, lst_mem hz, rfl⟩).mono ?_
          rintro e w5 ⟨_, rfl, rfl, tz, hdz, hs5⟩
          go_wp2_with fail
          refine ⟨rfl, (fun x => sat E x _), hs5, fun h => (by cases h), hNx _ _ ?_⟩
          clear hs5 hK hNx
          refine wpD_nil (fun w6 hK => ?_)
          have hR' := hR1.out _ _ (hNe.out ▸ hfl.out ▸ dels_swap hrd.out.la (by have := hrd.out.lb; simpa using this) hok1.out hso1.out hy.out hrd.out.big (by rw [hNe1.out]; omega) (by rw [hNe.out, hNe1.out]; omega) hz hdz) (open_node.2 ⟨_, _, hK.p7.drop.r4⟩)
          clear hR1 hK
          go_wp2_with fail
          exact bodyPost_end (v := .tuple #[]) (by simp [results, Try.results32]) rfl hR'
        · have hff : found ((ea' ++ eb').map fun x => ecmp x.kv (lk, id)) = false := by
            have : ¬ found ((ea' ++ eb').map fun x => ecmp x.kv (lk, id)) = true := fun h => by
              obtain ⟨y', eb2, h2, h3⟩ := hfd1.out.1 h
              have := hgt2 y' (by rw [h2]; simp)
              exact not_lt_kv h3.symm this
            simpa using this
          rw [hff]
          have hin1 : inn ⟨k, lk, id⟩ (flat d tq') := ⟨y, hyin, hy.out⟩
          replace hff := Lib.hid hff
          obtain ⟨f0, f1, f2, f3, f4⟩ := entFacts _ hU2.p7
          clear hgt2 hyin
          go_wp2_with fail
          refine (place E _ _ p _ _ k id lk (ea' ++ eb') hU2 hgt1 hv (by omega) (rises_sorted hss1 _)).mono ?_
          rintro e w5 ⟨_, rfl, rfl, hU⟩
          have hpp : pos ((ea' ++ eb').map fun x => ecmp x.kv (lk, id)) = ea'.length := hpos1.out
          rw [hpp, hff.out]
          clear hU2 f0 f1 f2 f3 f4 hpp hff hfd1 hbb hpos1
          have hek1 : ea'.length + 1 ≤ (ka'.map (·.1) ++ q' :: kb'.map (·.1)).length := by rw [List.length_append, hkl1.out]; simp <;> omega
          generalize hNk1 : (ka'.map (·.1) ++ q' :: kb'.map (·.1)).length = Nk1 at *
          replace hNk1 := Lib.hid hNk1
          go_wp2_with fail
          refine wp_draw_lit [(0,3),(1,3),(2,3),(3,0),(4,3),(5,3),(6,0),(7,0),(8,2)] (sat E · _) (by kernel_rfl) (by kernel_rfl) rfl hU.drew ?_
          clear hU
          iterate 3 (refine wpD_pure _ rfl rfl rfl ?_; apply Exists.intro; refine ⟨fun w' => ?_, ?_, ?_⟩; (go_wp2; exact ⟨rfl, rfl, rfl⟩); rfl)
          (refine wpD_reads _ rfl rfl rfl ?_; apply Exists.intro; refine ⟨fun w' hK => ?_, ?_, ?_⟩; (obtain ⟨p0, p1, p2, p3, p4⟩ := nd_cells hK; go_wp2; exact ⟨rfl, rfl, rfl⟩); rfl)
          iterate 2 (refine wpD_pure _ rfl rfl rfl ?_; apply Exists.intro; refine ⟨fun w' => ?_, ?_, ?_⟩; (go_wp2; exact ⟨rfl, rfl, rfl⟩); rfl)
          (refine wpD_reads _ rfl rfl rfl ?_; apply Exists.intro; refine ⟨fun w' hK => ?_, ?_, ?_⟩; (have p0 := kid_at hK.p3 hkl1.out; unfold ptr at p0; go_wp2; exact ⟨rfl, rfl, rfl⟩); rfl)
          (refine wpD_reads _ rfl rfl rfl ?_; apply Exists.intro; refine ⟨fun w' hK => ?_, ?_, ?_⟩; (obtain ⟨f0, f1, f2, f3, f4⟩ := entFacts _ hK.p7; go_wp2; exact ⟨rfl, rfl, rfl⟩); rfl)
          refine wpD_does (by decide) rfl rfl (fun Nx hNx w' hK => ?_)
          go_wp2_with fail
          refine (ih E _ _ q' tq' ⟨k, lk, id⟩ hK.p4 hv gq1 oq1.2.2 (by have := oq1.1; omega) oq1.2.1 sq1 hin1).mono ?_
          rintro e w5 ⟨_, rfl, rfl, tz, hdz, hs5⟩
          go_wp2_with fail
          refine ⟨rfl, (fun x => sat E x _), hs5, fun h => (by cases h), hNx _ _ ?_⟩
          clear hs5 hK hNx
          refine wpD_nil (fun w6 hK => ?_)
          have hR' := hR1.out _ _ (hNe.out ▸ hfl.out ▸ dels_kid hrd.out.la hok1.out hrd.out.big (by omega) (by rw [hNe.out]; omega) hdz) (open_node.2 ⟨_, _, hK.p7.drop.r4⟩)
          clear hR1 hK
          go_wp2_with fail
          exact bodyPost_end (v := .tuple #[]) (by simp [results, Try.results32]) rfl hR'
    · have hf : found (t.es.map fun x => ecmp x.kv (⟨k, lk, id⟩ : Ent).kv) = false := by simpa using hf
      obtain ⟨ea, eb, ka, q, tq, kb, rfl, hl, hl2, hpos, hh, htl⟩ := split_inner' hok hso hf
      rw [mk_es] at *
      rw [mk_ks] at *
      have hinq : inn ⟨k, lk, id⟩ (flat d tq) := by
        rw [flat_split hl, inn_append, inn_append] at hin
        exact hin.elim (fun h => absurd h (not_inn_lt hh)) fun h => h.elim (fun h => h) fun h => absurd h (not_inn_gt htl)
      have hle : ea.length ≤ (ea ++ eb).length := by simp
      have hlk : ea.length + 1 ≤ (ka.map (·.1) ++ q :: kb.map (·.1)).length := by simp; omega
      replace hpos := Lib.hid hpos
      replace hf := Lib.hid hf
      replace hh := Lib.hid hh
      replace htl := Lib.hid htl
      replace hl := Lib.hid hl
      replace hl2 := Lib.hid hl2
      replace hkg := Lib.hid hkg
      replace hokk := Lib.hid hokk
      replace hkso := Lib.hid hkso
      replace hok := Lib.hid hok
      replace hso := Lib.hid hso
      replace hg := Lib.hid hg
      replace hin := Lib.hid hin
      unfold ptr
      go_enter Try.func32, Try.ntmps32
      go_wp2_with fail
      generalize w.alloc (.cells #[k, .int .i64 id] 35) = w1 at *
      generalize w.heap.size = n at *
      obtain ⟨ve, vk, hU⟩ := open_node.1 hs2.p2
      clear hs2
      obtain ⟨g, cap, rfl, hcap, _⟩ := row_some hU.p2 (by omega)
      obtain ⟨gk, ck, rfl, hck, _⟩ := row_some hU.p3 (by simp)
      generalize hNe : (ea ++ eb).length = Ne at *
      generalize hNk : (ka.map (·.1) ++ q :: kb.map (·.1)).length = Nk at *
      replace hNe := Lib.hid hNe
      replace hNk := Lib.hid hNk
      obtain ⟨f0, f1, f2, f3, f4⟩ := entFacts _ hU.p7
      go_wp2_with fail
      refine (place E _ _ p _ _ k id lk (ea ++ eb) hU hgt hv (by rw [hNe.out]; exact hlen) (rises_sorted hss _)).mono ?_
      rintro e w2 ⟨_, rfl, rfl, hU2⟩
      clear hU f0 f1 f2 f3 f4
      have hpp : pos ((ea ++ eb).map fun x => ecmp x.kv (lk, id)) = ea.length := hpos.out.symm
      have hff : found ((ea ++ eb).map fun x => ecmp x.kv (lk, id)) = false := hf.out
      rw [hff, hpp]
      clear hff hpp
      obtain ⟨p0, p1, p2, p3, p4⟩ := nd_cells hU2
      have hs3 := open_node.2 ⟨_, _, hU2⟩
      have hcall := ready d E _ _ p q ea eb ka kb tq hs3 hok.out hl.out hl2.out (by rw [hNe.out]; exact h1) (by rw [hNe.out]; exact h7) hg.out
      clear hs3 hU2
      unfold ptr at hcall
      replace hcall := Lib.hid hcall
      go_wp2_with fail
      refine hcall.out.mono ?_
      rintro e w3 ⟨_, rfl, ea', eb', ka', q', tq', kb', rfl, hrd, hs4⟩
      clear hcall p0 p1 p2 p3 p4
      have hfl := rdy_flat (q := q) (q' := q') hrd hl.out
      have hok1 := rdy_ok (q' := q') hrd
      have hso1 : sorted (flat (d + 1) (mk (ea' ++ eb') (ka' ++ (q', tq') :: kb'))) := by rw [hfl]; exact hso.out
      have hg1 : Env.goods E (flat (d + 1) (mk (ea' ++ eb') (ka' ++ (q', tq') :: kb'))) := by rw [hfl]; exact hg.out
      have oq1 : okT tq' := hrd.kq
      have gq1 : Env.goods E (flat d tq') := kid_goods hg1 hok1 (q', tq') (by rw [mk_ks]; simp)
      have sq1 : sorted (flat d tq') := kid_sorted hso1 hok1 (q', tq') (by rw [mk_ks]; simp)
      have hle1 : (ea' ++ eb').length ≤ Ne := by have := hrd.le; rw [hNe.out] at this; exact this
      have hge1 : Ne ≤ (ea' ++ eb').length + 1 := by have := hrd.ge; rw [hNe.out] at this; exact this
      have hkl1 : Hid ((ka'.map (·.1)).length = ea'.length) := by show _ = _; rw [List.length_map]; exact hrd.la
      replace hrd := Lib.hid hrd
      replace hfl := Lib.hid hfl
      replace hok1 := Lib.hid hok1
      replace hso1 := Lib.hid hso1
      replace hg1 := Lib.hid hg1
      obtain ⟨ve1, vk1, hU⟩ := open_node.1 hs4
      clear hs4
      obtain ⟨gk1, ck1, rfl, hck1, _⟩ := row_some hU.p3 (by simp)
      have hin1 : inn ⟨k, lk, id⟩ (flat d tq') := rdy_inn hrd.out hinq
      have hek1 : ea'.length + 1 ≤ (ka'.map (·.1) ++ q' :: kb'.map (·.1)).length := by rw [List.length_append, hkl1.out]; simp <;> omega
      generalize hNk1 : (ka'.map (·.1) ++ q' :: kb'.map (·.1)).length = Nk1 at *
      replace hNk1 := Lib.hid hNk1
      go_wp2_with fail
      refine wp_draw_lit [(0,3),(1,3),(2,3),(3,0),(4,3),(5,3),(6,0),(7,0),(8,2)] (sat E · _) (by kernel_rfl) (by kernel_rfl) rfl hU.drew ?_
      clear hU
      iterate 3 (refine wpD_pure _ rfl rfl rfl ?_; apply Exists.intro; refine ⟨fun w' => ?_, ?_, ?_⟩; (go_wp2; exact ⟨rfl, rfl, rfl⟩); rfl)
      (refine wpD_reads _ rfl rfl rfl ?_; apply Exists.intro; refine ⟨fun w' hK => ?_, ?_, ?_⟩; (obtain ⟨p0, p1, p2, p3, p4⟩ := nd_cells hK; go_wp2; exact ⟨rfl, rfl, rfl⟩); rfl)
      iterate 2 (refine wpD_pure _ rfl rfl rfl ?_; apply Exists.intro; refine ⟨fun w' => ?_, ?_, ?_⟩; (go_wp2; exact ⟨rfl, rfl, rfl⟩); rfl)
      (refine wpD_reads _ rfl rfl rfl ?_; apply Exists.intro; refine ⟨fun w' hK => ?_, ?_, ?_⟩; (have p0 := kid_at hK.p3 hkl1.out; unfold ptr at p0; go_wp2; exact ⟨rfl, rfl, rfl⟩); rfl)
      (refine wpD_reads _ rfl rfl rfl ?_; apply Exists.intro; refine ⟨fun w' hK => ?_, ?_, ?_⟩; (obtain ⟨f0, f1, f2, f3, f4⟩ := entFacts _ hK.p7; go_wp2; exact ⟨rfl, rfl, rfl⟩); rfl)
      refine wpD_does (by decide) rfl rfl (fun Nx hNx w' hK => ?_)
      go_wp2_with fail
      refine (ih E _ _ q' tq' ⟨k, lk, id⟩ hK.p4 hv gq1 oq1.2.2 (by have := oq1.1; omega) oq1.2.1 sq1 hin1).mono ?_
      rintro e w5 ⟨_, rfl, rfl, tz, hdz, hs5⟩
      go_wp2_with fail
      refine ⟨rfl, (fun x => sat E x _), hs5, fun h => (by cases h), hNx _ _ ?_⟩
      clear hs5 hK hNx
      refine wpD_nil (fun w6 hK => ?_)
      have hR' := hR1.out _ _ (hNe.out ▸ hfl.out ▸ dels_kid hrd.out.la hok1.out hrd.out.big (by omega) (by rw [hNe.out]; omega) hdz) (open_node.2 ⟨_, _, hK.p7.drop.r4⟩)
      clear hR1 hK
      go_wp2_with fail
      exact bodyPost_end (v := .tuple #[]) (by simp [results, Try.results32]) rfl hR'
end Go.Proofs.Ytmibiaakppkmmaa
