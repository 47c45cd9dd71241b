/- The copy of a node. -/
import Derived.Test.YtmibiaakppkmmaaWell
namespace Go.Proofs.Ytmibiaakppkmmaa
open Go.RowKit Go.Sep
set_option linter.unusedVariables false
set_option linter.unusedSimpArgs false

theorem kvs_tails : ∀ {es es' : List Ent} {ks ks' : List (List Ent)}, kvs es' = kvs es → ks'.map kvs = ks.map kvs → kvs (tails es' ks') = kvs (tails es ks)
  | [], [], _, _, _, _ => by simp [tails]
  | [], _ :: _, _, _, h, _ => by simp [kvs] at h
  | _ :: _, [], _, _, h, _ => by simp [kvs] at h
  | e :: es, e' :: es', [], [], _, _ => by simp [tails]
  | e :: es, e' :: es', [], _ :: _, _, h => by simp at h
  | e :: es, e' :: es', _ :: _, [], _, h => by simp at h
  | e :: es, e' :: es', k :: ks, k' :: ks', h, h2 => by
    simp only [kvs, List.map_cons, List.cons.injEq] at h h2
    have := kvs_tails (es := es) (es' := es') (ks := ks) (ks' := ks') h.2 h2.2
    simp only [tails, kvs, List.map_cons, List.map_append] at this ⊢
    rw [h.1, h2.1, this]

theorem kvs_weave {es es' : List Ent} {ks ks' : List (List Ent)} (h : kvs es' = kvs es) (h2 : ks'.map kvs = ks.map kvs) : kvs (weave ks' es') = kvs (weave ks es) := by
  cases ks with
  | nil => cases ks' with
    | nil => rfl
    | cons k' ks' => simp at h2
  | cons k ks => cases ks' with
    | nil => simp at h2
    | cons k' ks' =>
      simp only [List.map_cons, List.cons.injEq] at h2
      have := kvs_tails h h2.2
      simp only [weave]
      simp only [kvs, List.map_append] at this h2 ⊢
      rw [h2.1, this]

theorem goods_tails {E : Env} : ∀ {es : List Ent} {ks : List (List Ent)}, Env.goods E es → (∀ k ∈ ks, Env.goods E k) → Env.goods E (tails es ks)
  | [], _, _, _ => by intro e he; simp [tails] at he
  | _ :: _, [], _, _ => by intro e he; simp [tails] at he
  | e :: es, k :: ks, h, h2 => by
    have := goods_tails (es := es) (ks := ks) (fun x hx => h x (List.mem_cons_of_mem _ hx)) (fun x hx => h2 x (List.mem_cons_of_mem _ hx))
    intro x hx
    simp only [tails, List.mem_cons, List.mem_append] at hx
    rcases hx with rfl | hx | hx
    · exact h x (by simp)
    · exact h2 k (by simp) x hx
    · exact this x hx

theorem goods_weave {E : Env} {es : List Ent} {ks : List (List Ent)} (h : Env.goods E es) (h2 : ∀ k ∈ ks, Env.goods E k) : Env.goods E (weave ks es) := by
  cases ks with
  | nil => intro e he; simp [weave] at he
  | cons k ks =>
    intro x hx
    simp only [weave, List.mem_append] at hx
    rcases hx with hx | hx
    · exact h2 k (by simp) x hx
    · exact goods_tails h (fun y hy => h2 y (List.mem_cons_of_mem _ hy)) x hx

theorem kvs_take_succ {es : List Ent} {k : Nat} (h : k < es.length) : (kvs es).take (k + 1) = (kvs es).take k ++ [es[k].kv] := by
  rw [List.take_succ_eq_append_getElem (by simpa [kvs] using h)]
  simp [kvs]

/-- one entry is appended -/
theorem append_ent {E : Env} {w : World} {A : Asn} {v : Value} {l : List Ent} (m : Nat) (x : Ent) (hx : E.vals x.k x.l) (hs : sat E w (pts m (.cells #[x.k, .int .i64 x.id] 35) * (ents v l * A))) (hn : l.length ≤ 100000) :
    ∃ a c w', (Builtin.append_ #[29, 29] 29 #[v, .slice (some ⟨m, 0, none⟩) 1 1]).run Try.prog w = .ok (.slice a (l.length + 1) c) w' ∧ sat E w' (ents (.slice a (l.length + 1) c) (l ++ [x]) * A) := by
  obtain ⟨i0, el⟩ := elEnt
  have hfy : firsts Try.prog w 2 1 (.slice (some ⟨m, 0, none⟩) 1 1) [x.k, .int .i64 x.id] := by
    refine firsts_some rfl fun j u hj => ?_
    rw [add_lit, cell_of_block hs.block]
    simpa using hj
  obtain ⟨v', w6, hr6, hs6, _, hsz6, _, _⟩ := append_row el 29 hs.p2 (some ⟨m, 0, none⟩) 1 1 _ rfl hfy (by
    intro u hu
    simp only [List.mem_cons, List.not_mem_nil, or_false] at hu
    rcases hu with rfl | rfl
    · exact vals_one hx
    · rfl) (by unfold maxLen; omega) (by omega)
  obtain ⟨g6, c6, rfl, _, _⟩ := row_some hs6 (by omega)
  exact ⟨_, _, w6, hr6, (row_ents (es := l ++ [x]) hs6 (by rw [entCells_append]; rfl) (by simp)).p2.drop⟩

/-- one node is appended -/
theorem append_kid {E : Env} {w : World} {A : Asn} {v : Value} {l : List Nat} (m q : Nat) (hs : sat E w (pts m (.cells #[ptr q] 55) * (kids v l * A))) (hn : l.length ≤ 100000) :
    ∃ a c w', (Builtin.append_ #[62, 62] 62 #[v, .slice (some ⟨m, 0, none⟩) 1 1]).run Try.prog w = .ok (.slice a (l.length + 1) c) w' ∧ sat E w' (kids (.slice a (l.length + 1) c) (l ++ [q]) * A) := by
  obtain ⟨i0, el⟩ := elNode
  have hfy : firsts Try.prog w 1 1 (.slice (some ⟨m, 0, none⟩) 1 1) [ptr q] := by
    refine firsts_some rfl fun j u hj => ?_
    rw [add_lit, cell_of_block hs.block]
    simpa using hj
  obtain ⟨v', w6, hr6, hs6, _, hsz6, _, _⟩ := append_row el 62 hs.p2 (some ⟨m, 0, none⟩) 1 1 _ rfl hfy (by
    intro u hu
    simp only [List.mem_cons, List.not_mem_nil, or_false] at hu
    subst hu
    rfl) (by unfold maxLen; omega) (by omega)
  obtain ⟨g6, c6, rfl, _, _⟩ := row_some hs6 (by omega)
  exact ⟨_, _, w6, hr6, (row_kids (ps := l ++ [q]) hs6 (by simp) (by simp)).p2.drop⟩

theorem sub_kid {d : Nat} {t : T (d + 1)} (hok : ok (d + 1) t) {q : Nat} {tk : T d} (h : (q, tk) ∈ t.ks) : ∀ e ∈ flat d tk, e ∈ flat (d + 1) t := by
  intro e he
  obtain ⟨ka, kb, hks⟩ := List.append_of_mem h
  have hl := ((ok_succ t).1 hok).1
  have hla : ka.length = (t.es.take ka.length).length := by
    rw [hks] at hl
    simp at hl ⊢
    omega
  have hf := flat_split (eb := t.es.drop ka.length) (ka := ka) (kb := kb) (k := (q, tk)) hla
  rw [List.take_append_drop, ← hks, mk_eta] at hf
  rw [hf]
  simp [he]

theorem take_snoc {α β : Type} {f : α → β} {l : List α} {k : Nat} (h : k < l.length) : (l.map f).take (k + 1) = (l.map f).take k ++ [f l[k]] := by
  rw [List.take_succ_eq_append_getElem (by simpa using h)]
  simp

set_option maxRecDepth 100000 in
set_option maxHeartbeats 4000000 in
theorem copyNode (d : Nat) : ∀ (E : Env) (w : World) (A : Asn) (p : Nat) (t : T d) (hs : sat E w (node d p t * A)) (hok : ok d t) (hg : Env.goods E (flat d t)) (hk : ∀ e ∈ flat d t, e.l.length ≤ 1000000) (h1 : 1 ≤ t.es.length) (h7 : t.es.length ≤ 7),
    Calls Try.prog 39 #[ptr p] w (Ret fun v w' => ∃ q t' E', v = ptr q ∧ E.le E' ∧ sat E' w' (node d q t' * (node d p t * A)) ∧ kvs (flat d t') = kvs (flat d t) ∧ ok d t' ∧ t'.es.length = t.es.length ∧ Env.goods E' (flat d t')) := by
  induction d using Nat.strongRecOn with
  | ind d ih =>
    intro E w A p t hs hok hg hk h1 h7
    refine ret_hide fun R hR => ?_
    have hge : Env.goods E t.es := fun e he => hg e ((es_sub d t hok).subset he)
    have hke : ∀ e ∈ t.es, e.l.length ≤ 1000000 := fun e he => hk e ((es_sub d t hok).subset he)
    obtain ⟨ve, vk, hs⟩ := sat_node.1 hs
    obtain ⟨g, c, rfl, _⟩ := row_some hs.p2 (by omega)
    have hs2 := (hs.alloc (.cells #[.slice none 0 0, .slice none 0 0] 64)).mk_nil (e := 35) (sz := 2)
    obtain ⟨p0, p1, p2, p3, p4⟩ := nd_cells hs2.p3
    replace hok := Lib.hid hok
    replace hg := Lib.hid hg
    replace hk := Lib.hid hk
    replace hge := Lib.hid hge
    replace hke := Lib.hid hke
    replace ih := Lib.hid ih
    unfold ptr
    clear hs
    go_enter Try.func39, Try.ntmps39
    go_wp2
    generalize w.alloc (.cells #[.slice none 0 0, .slice none 0 0] 64) = w1 at *
    generalize w.heap.size = n at *
    clear p0 p1 p2 p3 p4
    go_loopw [15] (fun i wr => ∃ k : Nat, k ≤ t.es.length ∧ i = .int .i64 k ∧ ∃ E' a cp es', E.le E' ∧ sat E' wr (nd n (.slice a k cp) (.slice none 0 0) * (ents (.slice a k cp) es' * (nd p (.slice (some ⟨g, 0, none⟩) t.es.length c) vk * (ents (.slice (some ⟨g, 0, none⟩) t.es.length c) t.es * (under d vk t * A))))) ∧ Hid (kvs es' = (kvs t.es).take k) ∧ Env.goods E' es') (fun i _ => t.es.length - (intOf i).toNat)
    case atStart => exact ⟨0, Nat.zero_le _, rfl, E, none, 0, [], .refl E, hs2.p2, rfl, fun e he => by cases he⟩
    case round =>
      clear hs2
      obtain ⟨k, hkl, rfl, E', a, cp, es', hE, hs, hkv, hg'⟩ := hrel
      by_cases hlt : k < t.es.length
      · obtain ⟨p0, p1, p2, p3, p4⟩ := ents_cell hs.p4 k hlt
        have hgk := hge.out _ (List.getElem_mem hlt)
        obtain ⟨ka, kc, hkk⟩ := hgk.slice
        rw [hkk] at p1
        go_wp2
        clear p0 p1 p2 p3 p4
        have hl' : es'.length = k := by
          have h2 := congrArg List.length hkv.out
          simp only [kvs, List.length_map, List.length_take] at h2
          omega
        have hsA := hs.alloc (.cells #[.slice ka t.es[k].l.length kc, .int .i64 t.es[k].id] 35)
        generalize wr.alloc (.cells #[.slice ka t.es[k].l.length kc, .int .i64 t.es[k].id] 35) = w2 at *
        generalize wr.heap.size = m at *
        have hvk : E'.vals (.slice ka t.es[k].l.length kc) t.es[k].l := by rw [← hkk]; exact hgk.le hE
        have hke' := hke.out _ (List.getElem_mem hlt)
        clear hs hkk hgk
        refine wp_draw_lit [(0,3),(1,3),(2,0),(3,3),(4,0),(5,0),(6,1),(7,1),(8,2),(9,3),(10,3),(11,2)] (sat E' · _) (by kernel_rfl) (by kernel_rfl) rfl hsA.drew ?_
        clear hsA
        iterate 2 (refine wpD_pure _ rfl rfl rfl ?_; apply Exists.intro; refine ⟨fun w' => ?_, ?_, ?_⟩; (go_wp2; exact ⟨rfl, rfl, rfl⟩); rfl)
        (refine wpD_reads _ rfl rfl rfl ?_; apply Exists.intro; refine ⟨fun w' hK => ?_, ?_, ?_⟩; (obtain ⟨p0, p1, p2, p3, p4⟩ := nd_cells hK.p2; go_wp2; exact ⟨rfl, rfl, rfl⟩); rfl)
        iterate 1 (refine wpD_pure _ rfl rfl rfl ?_; apply Exists.intro; refine ⟨fun w' => ?_, ?_, ?_⟩; (go_wp2; exact ⟨rfl, rfl, rfl⟩); rfl)
        (refine wpD_reads _ rfl rfl rfl ?_; apply Exists.intro; refine ⟨fun w' hK => ?_, ?_, ?_⟩; (obtain ⟨p0, p1, p2, p3, p4⟩ := nd_cells hK.p2; go_wp2; exact ⟨rfl, rfl, rfl⟩); rfl)
        (refine wpD_reads _ rfl rfl rfl ?_; apply Exists.intro; refine ⟨fun w' hK => ?_, ?_, ?_⟩; (obtain ⟨p0, p1, p2, p3, p4⟩ := entFacts w' hK; go_wp2; exact ⟨rfl, rfl, rfl⟩); rfl)
        refine wpD_does (by decide) rfl rfl (fun Nx hNx w' hK => ?_)
        go_wp2_with fail
        refine (cloneEnt E' _ _ _ _ _ hK hvk hke').mono ?_
        rintro e w3 ⟨_, rfl, k', E2, rfl, hE2, hs3, hk'⟩
        obtain ⟨ka', kc', rfl⟩ := hk'.slice
        go_wp2_with fail
        refine ⟨rfl, (fun x => sat E2 x _), hs3, fun _ x hx => hx.le hE2, hNx _ _ ?_⟩
        clear hs3 hK hNx
        refine wpD_does (by decide) rfl rfl (fun Nx hNx w4 hK => ?_)
        go_wp2
        refine ⟨rfl, (fun x => sat E2 x _), hK.alloc (.cells #[.slice ka' t.es[k].l.length kc', .int .i64 t.es[k].id] 35), fun _ x hx => hx.drop, hNx _ _ ?_⟩
        clear hK hNx
        generalize w4.heap.size = m2
        refine wpD_does (by decide) rfl rfl (fun Nx hNx w5 hK => ?_)
        obtain ⟨a6, c6, w6, hr, hs6⟩ := append_ent m2 ⟨.slice ka' t.es[k].l.length kc', t.es[k].l, t.es[k].id⟩ hk' (hK.to (by ac_rfl) : sat E2 w5 (pts m2 (.cells #[.slice ka' t.es[k].l.length kc', .int .i64 t.es[k].id] 35) * (ents (.slice a k cp) es' * (nd n (.slice a k cp) (.slice none 0 0) * (pts m (.cells #[.slice ka t.es[k].l.length kc, .int .i64 t.es[k].id] 35) * (nd p (.slice (some ⟨g, 0, none⟩) t.es.length c) vk * (ents (.slice (some ⟨g, 0, none⟩) t.es.length c) t.es * (under d vk t * A))))))) ) (by omega)
        rw [hl'] at hr hs6
        go_wp2_with (at_builtin; refine Lib.wpList_append_run _ rfl _ _ _ _ rfl _ _ rfl rfl _ _ hr ?_)
        refine ⟨rfl, (fun x => sat E2 x _), hs6, fun h => (by cases h), hNx _ _ ?_⟩
        clear hr hs6 hK hNx
        iterate 2 (refine wpD_pure _ rfl rfl rfl ?_; apply Exists.intro; refine ⟨fun w' => ?_, ?_, ?_⟩; (go_wp2; exact ⟨rfl, rfl, rfl⟩); rfl)
        refine wpD_does (by decide) rfl rfl (fun Nx hNx w7 hK => ?_)
        obtain ⟨p0, p1, p2, p3, p4⟩ := nd_cells hK.p2
        have hs8 := nd_set0 (.slice a6 (k + 1) c6) hK.p2
        go_wp2_with fail
        refine ⟨rfl, (fun x => sat E2 x _), hs8, fun h => (by cases h), hNx _ _ ?_⟩
        clear hs8 hK hNx p0 p1 p2 p3 p4
        refine wpD_nil (fun w9 hK => ?_)
        have hs9 := hK.p3.drop
        have hkv2 : Hid (kvs (es' ++ [⟨.slice ka' t.es[k].l.length kc', t.es[k].l, t.es[k].id⟩]) = (kvs t.es).take (k + 1)) := by
          show _ = _
          rw [kvs_take_succ hlt, ← hkv.out]
          simp [kvs, Ent.kv]
        have hg2 : Env.goods E2 (es' ++ [⟨.slice ka' t.es[k].l.length kc', t.es[k].l, t.es[k].id⟩]) := by
          intro x hx
          rcases List.mem_append.1 hx with hx | hx
          · exact (hg' x hx).le hE2
          · obtain rfl := List.mem_singleton.1 hx
            exact hk'
        generalize es' ++ [⟨.slice ka' t.es[k].l.length kc', t.es[k].l, t.es[k].id⟩] = es2 at *
        clear hK hke' hk' hvk
        go_wp2
        go_roundw
        case rel => exact ⟨k + 1, by omega, by go_num, E2, a6, c6, es2, hE.trans hE2, hs9, hkv2, hg2⟩
        case measure => simp [intOf]; omega
      · have hkk : k = t.es.length := by omega
        subst hkk
        have hkv1 : Hid (kvs es' = kvs t.es) := by
          show _ = _
          rw [hkv.out, List.take_of_length_le (by simp [kvs])]
        have hl' : Hid (es'.length = t.es.length) := by
          show _ = _
          have h2 := congrArg List.length hkv1.out
          simpa [kvs] using h2
        clear hkv hlt hkl
        rcases d with _ | d
        · obtain ⟨rfl, _⟩ := sat_under_zero.1 hs.p5
          obtain ⟨p0, p1, p2, p3, p4⟩ := nd_cells hs.p3
          go_wp2
          clear p0 p1 p2 p3 p4
          go_loopw [36] (fun i W => i = .int .i64 0 ∧ W = wr) (fun i _ => 0)
          case atStart => exact ⟨rfl, rfl⟩
          case round =>
            obtain ⟨rfl, rfl⟩ := hrel
            have hfin : sat E' wr (node 0 n (leaf es') * (node 0 p t * A)) := sat_node.2 ⟨_, _, by
              have x := sat_under_zero (t := leaf es').2 ⟨rfl, hs⟩
              have y : sat E' wr (node 0 p t * (nd n (.slice a t.es.length cp) (.slice none 0 0) * (ents (.slice a t.es.length cp) es' * under 0 (.slice none 0 0) (leaf es')) * A)) := sat_node.2 ⟨.slice (some ⟨g, 0, none⟩) t.es.length c, .slice none 0 0, x.to (by ac_rfl)⟩
              exact y.to (by rw [leaf_es]; ac_rfl)⟩
            have hR' := hR.out _ _ ⟨n, leaf es', E', rfl, hE, hfin, hkv1.out, trivial, hl'.out, hg'⟩
            unfold ptr at hR'
            clear hR hfin hs
            go_wp2
            try go_ret
            exact hR'
        · have hU : sat E' wr (kids vk (t.ks.map (·.1)) * (nodes d t.ks * (nd n (.slice a t.es.length cp) (.slice none 0 0) * (ents (.slice a t.es.length cp) es' * (nd p (.slice (some ⟨g, 0, none⟩) t.es.length c) vk * (ents (.slice (some ⟨g, 0, none⟩) t.es.length c) t.es * A)))))) := under_kids (t := t) hs.p5
          obtain ⟨hkl, hkb⟩ := (ok_succ t).1 hok.out
          obtain ⟨gk, ck, rfl, hck, _⟩ := row_some hU (by rw [List.length_map]; omega)
          rw [List.length_map, hkl] at hU hck
          have hs2 := (hU.mk_nil (e := 55) (sz := 1))
          have hs3 : sat E' wr (nd n (.slice a t.es.length cp) (.slice none 0 0) * (kids (.slice none 0 0) [] * ((1 : Asn) * (ents (.slice a t.es.length cp) es' * (nd p (.slice (some ⟨g, 0, none⟩) t.es.length c) (.slice (some ⟨gk, 0, none⟩) (t.es.length + 1) ck) * (ents (.slice (some ⟨g, 0, none⟩) t.es.length c) t.es * (kids (.slice (some ⟨gk, 0, none⟩) (t.es.length + 1) ck) (t.ks.map (·.1)) * (nodes d t.ks * A)))))))) := hs2.to (by
            show (kids (.slice none 0 0) [] * _) = _
            rw [one_sep]
            ac_rfl)
          replace hkl := Lib.hid hkl
          replace hkb := Lib.hid hkb
          clear hs hU hs2
          obtain ⟨p0, p1, p2, p3, p4⟩ := nd_cells hs3.p5
          go_wp2
          clear p0 p1 p2 p3 p4
          go_loopw [36] (fun i wr => ∃ k2 : Nat, k2 ≤ t.es.length + 1 ∧ i = .int .i64 k2 ∧ ∃ E2 a2 c2, ∃ ks' : List (Nat × T d), E'.le E2 ∧ Hid (ks'.length = k2) ∧ sat E2 wr (nd n (.slice a t.es.length cp) (.slice a2 k2 c2) * (kids (.slice a2 k2 c2) (ks'.map (·.1)) * (nodes d ks' * (ents (.slice a t.es.length cp) es' * (nd p (.slice (some ⟨g, 0, none⟩) t.es.length c) (.slice (some ⟨gk, 0, none⟩) (t.es.length + 1) ck) * (ents (.slice (some ⟨g, 0, none⟩) t.es.length c) t.es * (kids (.slice (some ⟨gk, 0, none⟩) (t.es.length + 1) ck) (t.ks.map (·.1)) * (nodes d t.ks * A)))))))) ∧ Hid (ks'.map (fun k => kvs (flat d k.2)) = (t.ks.map fun k => kvs (flat d k.2)).take k2) ∧ Hid (∀ k ∈ ks', 3 ≤ k.2.es.length ∧ k.2.es.length ≤ 7 ∧ ok d k.2) ∧ Hid (∀ k ∈ ks', Env.goods E2 (flat d k.2))) (fun i _ => t.es.length + 1 - (intOf i).toNat)
          case atStart => exact ⟨0, Nat.zero_le _, rfl, E', none, 0, [], .refl E', Lib.hid rfl, hs3, Lib.hid rfl, fun k hk => (by cases hk), fun k hk => (by cases hk)⟩
          case round =>
            clear hs3
            obtain ⟨k2, hk2l, rfl, E2, a2, c2, ks', hE2, hlk, hs, hkv2, hb2, hg2⟩ := hrel
            by_cases hlt : k2 < t.es.length + 1
            · obtain ⟨ka, q, tk, kb, hks, hka⟩ := split_kid t.ks k2 (by have := hkl.out; omega)
              have hqm : (q, tk) ∈ t.ks := by rw [hks]; simp
              have hkt := hkb.out (q, tk) hqm
              have hps : t.ks.map (·.1) = ka.map (·.1) ++ q :: kb.map (·.1) := by rw [hks]; simp
              have kc := hs.p7
              rw [hps] at kc
              have kc2 := kid_at kc (i := k2) (by rw [List.length_map]; exact hka)
              unfold ptr at kc2
              have hn : Hid (∀ E W, sat E W (nd n (.slice a t.es.length cp) (.slice a2 k2 c2) * (kids (.slice a2 k2 c2) (ks'.map (·.1)) * (nodes d ks' * (ents (.slice a t.es.length cp) es' * (nd p (.slice (some ⟨g, 0, none⟩) t.es.length c) (.slice (some ⟨gk, 0, none⟩) (t.es.length + 1) ck) * (ents (.slice (some ⟨g, 0, none⟩) t.es.length c) t.es * (kids (.slice (some ⟨gk, 0, none⟩) (t.es.length + 1) ck) (t.ks.map (·.1)) * (nodes d t.ks * A)))))))) ↔ sat E W (node d q tk * (nd n (.slice a t.es.length cp) (.slice a2 k2 c2) * (kids (.slice a2 k2 c2) (ks'.map (·.1)) * (nodes d ks' * (ents (.slice a t.es.length cp) es' * (nd p (.slice (some ⟨g, 0, none⟩) t.es.length c) (.slice (some ⟨gk, 0, none⟩) (t.es.length + 1) ck) * (ents (.slice (some ⟨g, 0, none⟩) t.es.length c) t.es * (kids (.slice (some ⟨gk, 0, none⟩) (t.es.length + 1) ck) (t.ks.map (·.1)) * (nodes d ka * (nodes d kb * A))))))))))) := fun E W => by
                have e : nodes d t.ks = nodes d ka * (node d q tk * nodes d kb) := by rw [hks]; exact nodes_split
                rw [e]
                constructor <;> intro h <;> exact h.to (by ac_rfl)
              have hgk : Env.goods E2 (flat d tk) := fun e he => ((hg.out e (sub_kid hok.out hqm e he)).le hE).le hE2
              have hkk : ∀ e ∈ flat d tk, e.l.length ≤ 1000000 := fun e he => hk.out e (sub_kid hok.out hqm e he)
              have hnext : Hid ((t.ks.map fun k => kvs (flat d k.2)).take (k2 + 1) = (t.ks.map fun k => kvs (flat d k.2)).take k2 ++ [kvs (flat d tk)]) := by
                show _ = _
                have h3 : k2 < t.ks.length := by rw [hks]; simp; omega
                rw [take_snoc h3]
                congr 2
                have : t.ks[k2] = (q, tk) := by simp [hks, ← hka]
                rw [this]
              replace hks := Lib.hid hks
              replace hps := Lib.hid hps
              replace hka := Lib.hid hka
              clear kc hqm
              go_wp2
              clear kc2
              refine wp_draw_lit [(0,3),(1,3),(2,0),(3,3),(4,0),(5,3),(6,1),(7,1),(8,2),(9,3),(10,3),(11,2)] (sat E2 · _) (by kernel_rfl) (by kernel_rfl) rfl hs.drew ?_
              clear hs
              iterate 2 (refine wpD_pure _ rfl rfl rfl ?_; apply Exists.intro; refine ⟨fun w' => ?_, ?_, ?_⟩; (go_wp2; exact ⟨rfl, rfl, rfl⟩); rfl)
              (refine wpD_reads _ rfl rfl rfl ?_; apply Exists.intro; refine ⟨fun w' hK => ?_, ?_, ?_⟩; (obtain ⟨p0, p1, p2, p3, p4⟩ := nd_cells hK; go_wp2; exact ⟨rfl, rfl, rfl⟩); rfl)
              iterate 1 (refine wpD_pure _ rfl rfl rfl ?_; apply Exists.intro; refine ⟨fun w' => ?_, ?_, ?_⟩; (go_wp2; exact ⟨rfl, rfl, rfl⟩); rfl)
              (refine wpD_reads _ rfl rfl rfl ?_; apply Exists.intro; refine ⟨fun w' hK => ?_, ?_, ?_⟩; (obtain ⟨p0, p1, p2, p3, p4⟩ := nd_cells hK; go_wp2; exact ⟨rfl, rfl, rfl⟩); rfl)
              iterate 1 (refine wpD_pure _ rfl rfl rfl ?_; apply Exists.intro; refine ⟨fun w' => ?_, ?_, ?_⟩; (go_wp2; exact ⟨rfl, rfl, rfl⟩); rfl)
              refine wpD_does (by decide) rfl rfl (fun Nx hNx w' hK => ?_)
              have hK2 := (hn.out _ _).1 hK
              go_wp2_with fail
              refine (ih.out d (Nat.lt_succ_self d) E2 _ _ q tk hK2 hkt.2.2 hgk hkk (by have := hkt.1; omega) hkt.2.1).mono ?_
              rintro e w3 ⟨_, rfl, q', t', E3, rfl, hE3, hs3, hkv3, hok3, hl3, hg3⟩
              have e1 : nodes d t.ks = nodes d ka * (node d q tk * nodes d kb) := by rw [hks.out]; exact nodes_split
              have hs4 : sat E3 w3 (kids (.slice a2 k2 c2) (ks'.map (·.1)) * (nd n (.slice a t.es.length cp) (.slice a2 k2 c2) * (node d q' t' * (nodes d ks' * (ents (.slice a t.es.length cp) es' * (nd p (.slice (some ⟨g, 0, none⟩) t.es.length c) (.slice (some ⟨gk, 0, none⟩) (t.es.length + 1) ck) * (ents (.slice (some ⟨g, 0, none⟩) t.es.length c) t.es * (kids (.slice (some ⟨gk, 0, none⟩) (t.es.length + 1) ck) (t.ks.map (·.1)) * (nodes d t.ks * A))))))))) := hs3.to (by rw [e1]; ac_rfl)
              clear hs3 hK2 e1
              unfold ptr
              go_wp2_with fail
              refine ⟨rfl, (fun x => sat E3 x _), hs4, fun _ x hx => ?_, hNx _ _ ?_⟩
              · have hy : sat E3 x (node d q' t' * (nd n (.slice a t.es.length cp) (.slice a2 k2 c2) * (kids (.slice a2 k2 c2) (ks'.map (·.1)) * (nodes d ks' * (ents (.slice a t.es.length cp) es' * (nd p (.slice (some ⟨g, 0, none⟩) t.es.length c) (.slice (some ⟨gk, 0, none⟩) (t.es.length + 1) ck) * (ents (.slice (some ⟨g, 0, none⟩) t.es.length c) t.es * (kids (.slice (some ⟨gk, 0, none⟩) (t.es.length + 1) ck) (t.ks.map (·.1)) * (nodes d t.ks * A))))))))) := hx.to (by ac_rfl)
                exact hy.drop.le hE3
              clear hs4 hK hNx
              refine wpD_does (by decide) rfl rfl (fun Nx hNx w4 hK => ?_)
              go_wp2
              refine ⟨rfl, (fun x => sat E3 x _), hK.alloc (.cells #[ptr q'] 55), fun _ x hx => hx.drop, hNx _ _ ?_⟩
              clear hK hNx
              generalize w4.heap.size = m2
              refine wpD_does (by decide) rfl rfl (fun Nx hNx w5 hK => ?_)
              obtain ⟨a9, c9, w6, hr, hs6⟩ := append_kid m2 q' hK (by rw [List.length_map, hlk.out]; omega)
              rw [List.length_map, hlk.out] at hr hs6
              go_wp2_with (at_builtin; refine Lib.wpList_append_run _ rfl _ _ _ _ rfl _ _ rfl rfl _ _ hr ?_)
              refine ⟨rfl, (fun x => sat E3 x _), hs6, fun h => (by cases h), hNx _ _ ?_⟩
              clear hr hs6 hK hNx
              iterate 2 (refine wpD_pure _ rfl rfl rfl ?_; apply Exists.intro; refine ⟨fun w' => ?_, ?_, ?_⟩; (go_wp2; exact ⟨rfl, rfl, rfl⟩); rfl)
              refine wpD_does (by decide) rfl rfl (fun Nx hNx w7 hK => ?_)
              obtain ⟨p0, p1, p2, p3, p4⟩ := nd_cells hK.p2
              have hs8 := nd_set1 (.slice a9 (k2 + 1) c9) hK.p2
              go_wp2_with fail
              refine ⟨rfl, (fun x => sat E3 x _), hs8, fun h => (by cases h), hNx _ _ ?_⟩
              clear hs8 hK hNx p0 p1 p2 p3 p4
              refine wpD_nil (fun w9 hK => ?_)
              have hs9 : sat E3 w9 (nd n (.slice a t.es.length cp) (.slice a9 (k2 + 1) c9) * (kids (.slice a9 (k2 + 1) c9) ((ks' ++ [(q', t')]).map (·.1)) * (nodes d (ks' ++ [(q', t')]) * (ents (.slice a t.es.length cp) es' * (nd p (.slice (some ⟨g, 0, none⟩) t.es.length c) (.slice (some ⟨gk, 0, none⟩) (t.es.length + 1) ck) * (ents (.slice (some ⟨g, 0, none⟩) t.es.length c) t.es * (kids (.slice (some ⟨gk, 0, none⟩) (t.es.length + 1) ck) (t.ks.map (·.1)) * (nodes d t.ks * A)))))))) := hK.to (by
                rw [List.map_append, nodes_append, nodes_cons, nodes_nil]
                show _ = _ * (kids _ (ks'.map (·.1) ++ [q']) * (nodes d ks' * (node d q' t' * 1) * _))
                rw [sep_comm _ 1, one_sep]
                ac_rfl)
              have hlk2 : Hid ((ks' ++ [(q', t')]).length = k2 + 1) := by show _ = _; rw [List.length_append, hlk.out]; rfl
              have hkv4 : Hid ((ks' ++ [(q', t')]).map (fun k => kvs (flat d k.2)) = (t.ks.map fun k => kvs (flat d k.2)).take (k2 + 1)) := by
                show _ = _
                rw [hnext.out, List.map_append, hkv2.out, ← hkv3]
                rfl
              have hb4 : Hid (∀ k ∈ ks' ++ [(q', t')], 3 ≤ k.2.es.length ∧ k.2.es.length ≤ 7 ∧ ok d k.2) := fun x hx => by
                rcases List.mem_append.1 hx with hx | hx
                · exact hb2.out x hx
                · obtain rfl := List.mem_singleton.1 hx
                  exact ⟨by rw [hl3]; exact hkt.1, by rw [hl3]; exact hkt.2.1, hok3⟩
              have hg4 : Hid (∀ k ∈ ks' ++ [(q', t')], Env.goods E3 (flat d k.2)) := fun x hx => by
                rcases List.mem_append.1 hx with hx | hx
                · exact (hg2.out x hx).le hE3
                · obtain rfl := List.mem_singleton.1 hx
                  exact hg3
              generalize ks' ++ [(q', t')] = ks2 at *
              clear hK hkv3 hok3 hl3 hg3 hgk hkk hn hnext
              go_wp2
              go_roundw
              case rel => exact ⟨k2 + 1, by omega, by go_num, E3, a9, c9, ks2, hE2.trans hE3, hlk2, hs9, hkv4, hb4, hg4⟩
              case measure => simp [intOf]; omega
            · have hk2e : k2 = t.es.length + 1 := by omega
              have y : sat E2 wr (node (d + 1) p t * (nd n (.slice a t.es.length cp) (.slice a2 k2 c2) * (ents (.slice a t.es.length cp) es' * (kids (.slice a2 k2 c2) (ks'.map (·.1)) * nodes d ks')) * A)) := sat_node.2 ⟨.slice (some ⟨g, 0, none⟩) t.es.length c, .slice (some ⟨gk, 0, none⟩) (t.es.length + 1) ck, hs.to (by
                rw [under_succ]
                show _ = _ * (_ * (kids _ (t.ks.map (·.1)) * nodes d t.ks * _))
                ac_rfl)⟩
              have hfin : sat E2 wr (node (d + 1) n (mk es' ks') * (node (d + 1) p t * A)) := sat_node.2 ⟨.slice a t.es.length cp, .slice a2 k2 c2, y.to (by
                rw [under_succ, mk_es]
                show _ = _ * (_ * (kids _ (ks'.map (·.1)) * nodes d ks' * _))
                ac_rfl)⟩
              have hflat : kvs (flat (d + 1) (mk es' ks')) = kvs (flat (d + 1) t) := by
                rw [flat_mk, flat_succ]
                refine kvs_weave hkv1.out ?_
                rw [List.map_map, List.map_map]
                refine hkv2.out.trans ?_
                rw [List.take_of_length_le (by rw [List.length_map, hkl.out]; omega)]
                rfl
              have hokf : ok (d + 1) (mk es' ks') := (ok_mk _ _).2 ⟨by rw [hlk.out, hl'.out]; omega, hb2.out⟩
              have hgf : Env.goods E2 (flat (d + 1) (mk es' ks')) := by
                rw [flat_mk]
                refine goods_weave (fun e he => (hg' e he).le hE2) fun k hk => ?_
                obtain ⟨x, hx, rfl⟩ := List.mem_map.1 hk
                exact hg2.out x hx
              have hR' := hR.out _ _ ⟨n, mk es' ks', E2, rfl, hE.trans hE2, hfin, hflat, hokf, hl'.out, hgf⟩
              unfold ptr at hR'
              clear hR y hfin hflat hokf hgf hs hk2l hk2e hlk hkv2 hb2 hg2
              go_wp2
              try go_ret
              exact hR'

theorem kvs_key {l l' : List Ent} (h : kvs l' = kvs l) {N : Nat} (hk : ∀ e ∈ l, e.l.length ≤ N) : ∀ e ∈ l', e.l.length ≤ N := by
  intro e he
  have : e.kv ∈ kvs l := by rw [← h]; exact List.mem_map_of_mem he
  obtain ⟨x, hx, hxe⟩ := List.mem_map.1 this
  have h2 := hk x hx
  have h3 : x.l = e.l := congrArg Prod.fst hxe
  rwa [h3] at h2

set_option maxRecDepth 10000 in
set_option maxHeartbeats 2000000 in
theorem copyE (E : Env) (w : World) (A : Asn) (r : Nat) (m : List KV) (hT : TreeE E w A r m) (hm : Small m) :
    Calls Try.prog 24 #[ptr r] w (Ret fun v w' => ∃ r2 E', v = ptr r2 ∧ E.le E' ∧ Two E' w' A r m r2 m) := by
  refine ret_hide fun R hR => ?_
  obtain ⟨h, l, hT, hkv⟩ := hT
  obtain ⟨hg, hso, hs⟩ := hT
  have hml := hm.1
  have hll : l.length = m.length := by rw [← hkv]; simp [kvs]
  obtain ⟨_, hkeys⟩ := hm.keys hkv
  unfold ptr
  rcases h with _ | d
  · obtain ⟨rfl, hs1⟩ := sat_tree_zero.1 hs
    clear hs
    have hs := hs1
    clear hs1
    obtain rfl : m = [] := by rw [← hkv]; rfl
    have hs2 := hs.alloc (.cells #[.pointer none, .int .i64 0] 57)
    obtain ⟨r0, r1, r2, r3, r4⟩ := hd_cells hs
    obtain ⟨s0, s1, s2, s3, s4⟩ := hd_cells hs2.p2
    rw [show ((0 : Nat) : Int) = 0 from rfl] at r2 s2
    have h2 : Two E (w.alloc (.cells #[.pointer none, .int .i64 0] 57)) A r [] w.heap.size [] := ⟨0, [], 0, [], hg, hso, rfl, hg, hso, rfl, sat_tree_zero.2 ⟨rfl, by
      have x := sat_tree_zero.2 ⟨rfl, hs2⟩
      exact x.to (by ac_rfl)⟩⟩
    have hR' := hR.out _ _ ⟨w.heap.size, E, rfl, .refl E, h2⟩
    unfold ptr at hR'
    clear hR hs hs2 h2
    go_enter Try.func24, Try.ntmps24
    go_wp2
    try go_ret
    exact hR'
  · obtain ⟨p, t, hfl, hok, h1, h7, hs⟩ := sat_tree_succ.1 hs
    have hgf : Env.goods E (flat d t) := hfl ▸ hg
    have hkf : ∀ e ∈ flat d t, e.l.length ≤ 1000000 := hfl ▸ hkeys
    have hs2 : sat E (w.alloc (.cells #[.pointer none, .int .i64 l.length] 57)) (hd w.heap.size (.pointer none) l.length * (hd r (ptr p) l.length * (node d p t * A))) := hs.alloc (.cells #[.pointer none, .int .i64 l.length] 57)
    obtain ⟨r0, r1, r2, r3, r4⟩ := hd_cells hs
    obtain ⟨s0, s1, s2, s3, s4⟩ := hd_cells hs2.p2
    unfold ptr at r1 s1
    replace hfl := Lib.hid hfl
    replace hkv := Lib.hid hkv
    replace hkeys := Lib.hid hkeys
    replace hll := Lib.hid hll
    clear hs
    go_enter Try.func24, Try.ntmps24
    go_wp2_with fail
    generalize w.alloc (.cells #[.pointer none, .int .i64 l.length] 57) = w1 at *
    generalize w.heap.size = n at *
    refine (copyNode d E _ _ p t hs2.p3 hok hgf hkf h1 h7).mono ?_
    rintro e w3 ⟨_, rfl, q, t', E3, rfl, hE3, hs3, hkv3, hok3, hl3, hg3⟩
    clear hs2 r0 r1 r2 r3 r4 s0 s1 s2 s3 s4
    obtain ⟨s0, s1, s2, s3, s4⟩ := hd_cells hs3.p3
    have hs4 := hd_set0 (ptr q) hs3.p3
    have hlen : (flat d t').length = l.length := by
      have h2 := congrArg List.length hkv3
      rw [hfl.out] at h2
      simpa [kvs] using h2
    have h2 : Two E3 (w3.setCell ⟨n, 0, none⟩ (ptr q)) A r m n m := ⟨d + 1, l, d + 1, flat d t', hg.le hE3, hso, hkv.out, hg3, sorted_kvs.2 (by rw [hkv3, hfl.out]; exact sorted_kvs.1 hso), by rw [hkv3, hfl.out]; exact hkv.out, by
      have x := sat_tree_succ.2 ⟨q, t', rfl, hok3, by omega, by omega, by rw [hlen]; exact hs4⟩
      have y : sat E3 (w3.setCell ⟨n, 0, none⟩ (ptr q)) (tree r (d + 1) l * (tree n (d + 1) (flat d t') * A)) := sat_tree_succ.2 ⟨p, t, hfl.out, hok, h1, h7, x.to (by ac_rfl)⟩
      exact y⟩
    have hR' := hR.out _ _ ⟨n, E3, rfl, hE3, h2⟩
    unfold ptr at hR' hs4 ⊢
    clear hR hs3 hs4 h2 hkv3 hok3 hl3 hg3 hlen
    go_wp2_with fail
    try go_ret
    exact hR'
end Go.Proofs.Ytmibiaakppkmmaa
