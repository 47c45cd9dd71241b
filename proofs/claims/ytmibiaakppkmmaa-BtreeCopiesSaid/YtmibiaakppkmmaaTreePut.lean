/- An entry is put into a tree. -/
import Derived.Test.YtmibiaakppkmmaaHas
namespace Go.Proofs.Ytmibiaakppkmmaa
open Go.RowKit Go.Sep
set_option linter.unusedVariables false
set_option linter.unusedSimpArgs false

abbrev KV := List Val × Int
def kvs (l : List Ent) : List KV := l.map Ent.kv

/-- one is put among some, in its row -/
def put1 (x : KV) : List KV → List KV
  | [] => [x]
  | y :: l => if ecmp y x = -1 then y :: put1 x l else if y = x then y :: l else x :: y :: l

theorem put1_split {a b : List Ent} {e e' : Ent} (hk : e'.kv = e.kv) (ha : ∀ x ∈ a, lt x e) (hb : ∀ x ∈ b, lt e x) : kvs (a ++ e' :: b) = put1 e.kv (kvs (a ++ b)) := by
  induction a with
  | nil =>
    cases b with
    | nil => simp [kvs, put1, hk]
    | cons y b =>
      have h1 := hb y (by simp)
      have h2 := lt_gt.1 h1
      have h3 : y.kv ≠ e.kv := by intro h; rw [h, Cmp.entry.self] at h2; cases h2
      simp [kvs, put1, hk, h2, h3]
  | cons x a ih =>
    have h1 : ecmp x.kv e.kv = -1 := ha x (by simp)
    have := ih (fun y hy => ha y (by simp [hy]))
    simp only [kvs, List.cons_append, List.map_cons, put1, h1, if_true] at this ⊢
    rw [this]

theorem put1_in {l : List Ent} {e : Ent} (hs : sorted l) (h : inn e l) : put1 e.kv (kvs l) = kvs l := by
  induction l with
  | nil => obtain ⟨x, hx, _⟩ := h; simp at hx
  | cons y l ih =>
    obtain ⟨h1, h2⟩ := sorted_cons.1 hs
    obtain ⟨x, hx, hk⟩ := h
    by_cases he : y.kv = e.kv
    · have : ecmp y.kv e.kv ≠ -1 := by rw [he, Cmp.entry.self]; decide
      simp [kvs, put1, this, he, Cmp.entry.self]
    · rcases List.mem_cons.1 hx with rfl | hx
      · exact absurd hk he
      · have : ecmp y.kv e.kv = -1 := hk ▸ h1 x hx
        have ih := ih h2 ⟨x, hx, hk⟩
        simp only [kvs, List.map_cons, put1, this, if_true] at ih ⊢
        rw [ih]

theorem sorted_mid {a b : List Ent} {e e' : Ent} (hk : e'.kv = e.kv) (hs : sorted (a ++ b)) (ha : ∀ x ∈ a, lt x e) (hb : ∀ x ∈ b, lt e x) : sorted (a ++ e' :: b) := by
  obtain ⟨h1, h2, h3⟩ := sorted_append.1 hs
  have ha' : ∀ x ∈ a, lt x e' := fun x hx => by have := ha x hx; unfold lt at this ⊢; rw [hk]; exact this
  have hb' : ∀ x ∈ b, lt e' x := fun x hx => by have := hb x hx; unfold lt at this ⊢; rw [hk]; exact this
  refine sorted_append.2 ⟨h1, sorted_cons.2 ⟨hb', h2⟩, fun x hx y hy => ?_⟩
  rcases List.mem_cons.1 hy with rfl | hy
  · exact ha' x hx
  · exact h3 x hx y hy

theorem goods_mid {E : Env} {a b : List Ent} {e : Ent} (h : Env.goods E (a ++ b)) (he : E.vals e.k e.l) : Env.goods E (a ++ e :: b) := by
  intro x hx
  rcases List.mem_append.1 hx with hx | hx
  · exact h x (List.mem_append_left _ hx)
  · rcases List.mem_cons.1 hx with rfl | hx
    · exact he
    · exact h x (List.mem_append_right _ hx)

/-- the tree, with these entries in it, and what holds of it always -/
def Tree (E : Env) (w : World) (A : Asn) (r h : Nat) (l : List Ent) : Prop := Env.goods E l ∧ sorted l ∧ sat E w (tree r h l * A)

set_option maxRecDepth 10000 in
set_option maxHeartbeats 2000000 in
theorem treePut (E : Env) (w : World) (A : Asn) (r h : Nat) (l : List Ent) (k : Value) (lk : List Val) (id : Int) (hT : Tree E w A r h l) (hv : E.vals k lk) (hn : l.length ≤ 100000) (hk : lk.length ≤ 1000000) :
    Calls Try.prog 20 #[ptr r, k, .int .i64 id] w (Ret fun v w' => ∃ E' h' l', E.le E' ∧ Tree E' w' A r h' l' ∧ kvs l' = put1 (lk, id) (kvs l) ∧ v = .bool (decide ((lk, id) ∉ kvs l))) := by
  refine ret_hide fun R hR => ?_
  obtain ⟨hg, hso, hs⟩ := hT
  obtain ⟨ak, ck, rfl⟩ := hv.slice
  have hin : inn ⟨.slice ak lk.length ck, lk, id⟩ l ↔ (lk, id) ∈ kvs l := by
    simp only [inn, kvs, List.mem_map, Ent.kv]
  unfold ptr
  have hs2 := hs.alloc (.cells #[.slice ak lk.length ck, .int .i64 id] 35)
  by_cases hi : (lk, id) ∈ kvs l
  · have hb := Lib.hid (hin.2 hi)
    have hi' : decide ((lk, id) ∉ kvs l) = false := by simpa using hi
    have hR1 := fun (w' : World) (h' : sat E w' (tree r h l * A)) => hR.out (.bool false) w' ⟨E, h, l, .refl E, ⟨hg, hso, h'⟩, (put1_in hso (hin.2 hi)).symm, by rw [hi']⟩
    replace hR1 := Lib.hid hR1
    replace hi := Lib.hid hi
    clear hR hin hi'
    go_enter Try.func20, Try.ntmps20
    go_wp2_with fail
    refine (has E _ _ r h l ⟨.slice ak lk.length ck, lk, id⟩ true (hs2.to (sep_left_comm _ _ _)) hv hg hso (Iff.intro (fun _ => hb.out) (fun _ => rfl))).mono ?_
    rintro e w3 ⟨_, rfl, rfl, hs3⟩
    have hR' := hR1.out _ (hs3.to (sep_left_comm _ _ _)).drop
    clear hR1 hs3 hs2 hs hg hso hb hi
    go_wp2_with fail
    try go_ret
    exact hR'
  · have hb : Hid (¬ inn ⟨.slice ak lk.length ck, lk, id⟩ l) := fun h => absurd (hin.1 h) hi
    have hnb : Hid (decide ((lk, id) ∉ kvs l) = true) := by show decide _ = true; simpa using hi
    have hne : Hid (∀ x ∈ l, ecmp x.kv (lk, id) ≠ 0) := fun x hx h0 => hi (by rw [← (Cmp.entry.eq _ _).1 h0]; exact List.mem_map_of_mem hx)
    replace hi := Lib.hid hi
    clear hin
    have qe := fun (W : World) a n c => Lib.run_eql_slice_nil (P := Try.prog) W 62 55 a n c 0 0 Try.underlying62
    go_enter Try.func20, Try.ntmps20
    go_wp2_with fail
    refine (has E _ _ r h l ⟨.slice ak lk.length ck, lk, id⟩ false (hs2.to (sep_left_comm _ _ _)) hv hg hso (Iff.intro (fun h => by cases h) (fun h => absurd h hb.out))).mono ?_
    rintro e w3 ⟨_, rfl, rfl, hs3⟩
    generalize w.heap.size = n at *
    clear hs2 hs hb
    rcases h with _ | d
    · obtain ⟨rfl, hs4⟩ := sat_tree_zero.1 hs3
      obtain ⟨r0, r1, r2, r3, r4⟩ := hd_cells hs4
      have hs5 := (hd_set0 (ptr w3.heap.size) hs4).alloc (.cells #[.slice none 0 0, .slice none 0 0] 64)
      unfold ptr at hs5
      rw [World.size_setCell] at hs5
      have hs6 := hs5.p2
      clear hs3 hs4 hs5
      go_wp2_with fail
      generalize (w3.setCell ⟨r, 0, none⟩ (.pointer (some ⟨w3.heap.size, 0, none⟩))).alloc (.cells #[.slice none 0 0, .slice none 0 0] 64) = w9 at *
      generalize w3.heap.size = q at *
      have H9 : sat E w9 (hd r (ptr q) ([] : List Ent).length * (pts n (.cells #[.slice ak lk.length ck, .int .i64 id] 35 (0, 0)) * (node 0 q (leaf []) * A))) := by
        have x : sat E w9 (under 0 (.slice none 0 0) (leaf []) * _) := sat_under_zero.2 ⟨rfl, hs6⟩
        have y := (x.p3.mk_nil (e := 35) (sz := 2))
        -- row * (nd q * (under * (hd * (pts n * A))))
        have z : sat E w9 (ents (.slice none 0 0) [] * _) := y
        exact (sat_node.2 ⟨_, _, z.p2⟩).r3
      clear hs6 r0 r1 r2 r3 r4
      have hl0 : Hid (flat 0 (leaf []) = ([] : List Ent)) := rfl
      refine wp_draw_lit [(0,3),(1,3),(2,3),(3,0),(4,0),(5,1),(6,2)] (sat E · _) (by kernel_rfl) (by kernel_rfl) rfl H9.drew ?_
      clear H9
      iterate 3 (refine wpD_pure _ rfl rfl rfl ?_; apply Exists.intro; refine ⟨fun w' => ?_, ?_, ?_⟩; (go_wp2; exact ⟨rfl, rfl, rfl⟩); rfl)
      (refine wpD_reads _ rfl rfl rfl ?_; apply Exists.intro; refine ⟨fun w' hK => ?_, ?_, ?_⟩; (obtain ⟨p0, p1, p2, p3, p4⟩ := hd_cells hK; unfold ptr at p1; go_wp2; exact ⟨rfl, rfl, rfl⟩); rfl)
      (refine wpD_reads _ rfl rfl rfl ?_; apply Exists.intro; refine ⟨fun w' hK => ?_, ?_, ?_⟩; (obtain ⟨p0, p1, p2, p3, p4⟩ := entFacts _ hK.p2; go_wp2; exact ⟨rfl, rfl, rfl⟩); rfl)
      refine wpD_does (by decide) rfl rfl (fun Nx hNx w' hK => ?_)
      go_wp2_with fail
      refine (cloneEnt E _ _ _ id lk hK hv hk).mono ?_
      rintro e w4 ⟨_, rfl, k', E', rfl, hE, hs4, hv'⟩
      obtain ⟨ak', ck', rfl⟩ := hv'.slice
      go_wp2_with fail
      refine ⟨rfl, (fun x => sat E' x _), hs4, fun _ x hx => hx.le hE, hNx _ _ ?_⟩
      clear hs4 hK hNx
      refine wpD_does (by decide) rfl rfl (fun Nx hNx w' hK => ?_)
      go_wp2_with fail
      refine (put 0 E' _ _ q (leaf []) ⟨.slice ak' lk.length ck', lk, id⟩ hK.p3 hv' (hl0.out ▸ hg.le hE) trivial (show (leaf []).es.length ≤ 6 by simp [leaf_es]) (hl0.out ▸ hso) (hl0.out ▸ hne.out)).mono ?_
      rintro e w5 ⟨_, rfl, rfl, t', a, b, e1, e2, ha, hb, ok', n1, n2, hs5⟩
      have Y1 := Lib.hid (e1.symm.trans hl0.out)
      have Y2 := Lib.hid e2
      clear e1 e2
      have Y3 : Hid (1 ≤ t'.es.length) := by have := congrArg List.length Y2.out; rw [flat_leaf] at this; simp at this; show 1 ≤ _; omega
      have Y4 : Hid (t'.es.length ≤ 7) := by have := (show (leaf []).es.length ≤ 6 by simp [leaf_es]); exact (by omega : t'.es.length ≤ 7)
      clear n1 n2
      go_wp2_with fail
      refine ⟨rfl, (fun x => sat E' x _), hs5.p2, fun h => (by cases h), hNx _ _ ?_⟩
      clear hs5 hK hNx
      refine wpD_nil (fun w6 hK => ?_)
      obtain ⟨p0, p1, p2, p3, p4⟩ := hd_cells hK
      have hs6 := hd_set1 1 hK
      rw [show ((1 : Nat) : Int) = 1 from rfl] at hs6
      have hs7 := hs6.p3.drop
      have hlen1 : (a ++ (⟨.slice ak' lk.length ck', lk, id⟩ : Ent) :: b).length = 1 := by
        have := congrArg List.length Y1.out
        rw [List.length_append] at this
        rw [List.length_append, List.length_cons]
        try simp only [List.length_nil] at this
        omega
      have hR' := hR.out _ _ ⟨E', 0 + 1, a ++ ⟨.slice ak' lk.length ck', lk, id⟩ :: b, hE, ⟨goods_mid (Y1.out ▸ hg.le hE) hv', sorted_mid (e := ⟨.slice ak' lk.length ck', lk, id⟩) rfl (Y1.out ▸ hso) ha hb, sat_tree_succ.2 ⟨q, t', Y2.out, ok', Y3.out, Y4.out, by rw [hlen1]; exact hs7⟩⟩, by rw [put1_split (e := ⟨.slice ak' lk.length ck', lk, id⟩) rfl ha hb, Y1.out]; rfl, rfl⟩
      rw [hnb.out] at hR'
      clear hR hs6 hs7 hK ha hb ok' hE hv' hlen1
      go_wp2_with fail
      try go_ret
      exact hR'

    · obtain ⟨p, t, hfl, hok, h1, h7, hs4⟩ := sat_tree_succ.1 hs3
      -- hd * (node * (pts n * A))
      obtain ⟨r0, r1, r2, r3, r4⟩ := hd_cells hs4
      unfold ptr at r1
      obtain ⟨vp, kp, hs5⟩ := sat_node.1 hs4.p2
      obtain ⟨gp, cp, rfl, hcp, _⟩ := row_some hs5.p2 (by omega)
      obtain ⟨q0, q1, q2, q3, q4⟩ := nd_cells hs5
      clear hs5 hs3
      have X1 := Lib.hid hfl
      by_cases h77 : t.es.length = 7
      · have h77' := Lib.hid h77
        rw [h77] at q1 hcp
        clear h77
        have hs5 := ((hd_set0 (ptr (w3.heap.size + 1)) hs4).alloc (.cells #[ptr p] 55)).alloc (.cells #[.slice none 0 0, .slice (some ⟨w3.heap.size, 0, none⟩) 1 1] 64)
        unfold ptr at hs5
        rw [World.size_alloc, World.size_setCell] at hs5
        have hs6 := hs5.p3
        -- hd * (nd q * (pts b * (node p * (pts n * A))))
        obtain ⟨s0, s1, s2, s3, s4⟩ := hd_cells hs6
        clear hs5 hs4 hfl
        have hgt : Env.goods E t.es := goods_sub (X1.out ▸ hg) (es_sub d t hok)
        go_wp2_with fail
        generalize ((w3.setCell ⟨r, 0, none⟩ (.pointer (some ⟨w3.heap.size + 1, 0, none⟩))).alloc (.cells #[.pointer (some ⟨p, 0, none⟩)] 55)).alloc (.cells #[.slice none 0 0, .slice (some ⟨w3.heap.size, 0, none⟩) 1 1] 64) = w6 at *
        generalize w3.heap.size + 1 = q at *
        generalize w3.heap.size = b at *
        have x : sat E w6 (kids (.slice (some ⟨b, 0, none⟩) 1 1) [p] * _) := hs6.p3.mk_new (n := 1) (sz := 1) rfl (by decide)
        have y : sat E w6 (ents (.slice none 0 0) [] * _) := x.mk_nil (e := 35) (sz := 2)
        refine (cut d E _ _ q p _ _ [] [] [] [] t y.p4.p5.r4 rfl h77'.out hok hgt (fun _ h => by cases h) (by simp) (by simp)).mono ?_
        rintro e w7 ⟨_, rfl, rfl, q', ve', vk', m, t1, t2, n1, n2, ok1, ok2, hfq, hm, hs7⟩
        have H9 : sat E w7 (hd r (ptr q) l.length * (pts n (.cells #[.slice ak lk.length ck, .int .i64 id] 35 (0, 0)) * (node (d + 1) q (mk [m] [(p, t1), (q', t2)]) * A))) := by
          have z : sat E w7 (node (d + 1) q (mk [m] ([] ++ (p, t1) :: [(q', t2)])) * (hd r (ptr q) l.length * (pts n (.cells #[.slice ak lk.length ck, .int .i64 id] 35 (0, 0)) * A))) := open_node.2 ⟨_, _, hs7.to (by simp only [List.map_nil, List.map_cons, List.nil_append, nodes_nil, nodes_cons, one_sep, sep_one]; rfl)⟩
          exact z.r3
        have hle : Hid ((mk [m] [(p, t1), (q', t2)]).es.length = 1) := rfl
        have Z1 : Hid (flat (d + 1) (mk [m] [(p, t1), (q', t2)]) = l) := by
          show flat (d + 1) (mk [m] [(p, t1), (q', t2)]) = l
          rw [← X1.out, hfq]
          simp [flat_mk, weave, tails]
        have hok2 : ok (d + 1) (mk [m] [(p, t1), (q', t2)]) := by
          rw [ok_mk]
          refine ⟨rfl, fun k hk => ?_⟩
          simp only [List.mem_cons, List.not_mem_nil, or_false] at hk
          rcases hk with rfl | rfl
          · exact ⟨by simp only; omega, by simp only; omega, ok1⟩
          · exact ⟨by simp only; omega, by simp only; omega, ok2⟩
        clear hs6 hs7 x y n1 n2 ok1 ok2 r0 r1 r2 r3 r4 q0 q1 q2 q3 q4 s0 s1 s2 s3 s4 hcp hfq
        go_wp2_with fail
        refine wp_draw_lit [(0,3),(1,3),(2,3),(3,0),(4,0),(5,1),(6,2)] (sat E · _) (by kernel_rfl) (by kernel_rfl) rfl H9.drew ?_
        clear H9
        iterate 3 (refine wpD_pure _ rfl rfl rfl ?_; apply Exists.intro; refine ⟨fun w' => ?_, ?_, ?_⟩; (go_wp2; exact ⟨rfl, rfl, rfl⟩); rfl)
        (refine wpD_reads _ rfl rfl rfl ?_; apply Exists.intro; refine ⟨fun w' hK => ?_, ?_, ?_⟩; (obtain ⟨p0, p1, p2, p3, p4⟩ := hd_cells hK; unfold ptr at p1; go_wp2; exact ⟨rfl, rfl, rfl⟩); rfl)
        (refine wpD_reads _ rfl rfl rfl ?_; apply Exists.intro; refine ⟨fun w' hK => ?_, ?_, ?_⟩; (obtain ⟨p0, p1, p2, p3, p4⟩ := entFacts _ hK.p2; go_wp2; exact ⟨rfl, rfl, rfl⟩); rfl)
        refine wpD_does (by decide) rfl rfl (fun Nx hNx w' hK => ?_)
        go_wp2_with fail
        refine (cloneEnt E _ _ _ id lk hK hv hk).mono ?_
        rintro e w4 ⟨_, rfl, k', E', rfl, hE, hs4, hv'⟩
        obtain ⟨ak', ck', rfl⟩ := hv'.slice
        go_wp2_with fail
        refine ⟨rfl, (fun x => sat E' x _), hs4, fun _ x hx => hx.le hE, hNx _ _ ?_⟩
        clear hs4 hK hNx
        refine wpD_does (by decide) rfl rfl (fun Nx hNx w' hK => ?_)
        go_wp2_with fail
        refine (put (d + 1) E' _ _ q (mk [m] [(p, t1), (q', t2)]) ⟨.slice ak' lk.length ck', lk, id⟩ hK.p3 hv' (Z1.out ▸ hg.le hE) hok2 (by have := hle.out; omega : (mk [m] [(p, t1), (q', t2)]).es.length ≤ 6) (Z1.out ▸ hso) (Z1.out ▸ hne.out)).mono ?_
        rintro e w5 ⟨_, rfl, rfl, t', a, b, e1, e2, ha, hb, ok', n1, n2, hs5⟩
        have Y1 := Lib.hid (e1.symm.trans Z1.out)
        have Y2 := Lib.hid e2
        clear e1 e2
        have Y3 : Hid (1 ≤ t'.es.length) := by show 1 ≤ _; have := hle.out; omega
        have Y4 : Hid (t'.es.length ≤ 7) := by have := (by have := hle.out; omega : (mk [m] [(p, t1), (q', t2)]).es.length ≤ 6); exact (by omega : t'.es.length ≤ 7)
        clear n1 n2
        go_wp2_with fail
        refine ⟨rfl, (fun x => sat E' x _), hs5.p2, fun h => (by cases h), hNx _ _ ?_⟩
        clear hs5 hK hNx
        refine wpD_nil (fun w6 hK => ?_)
        obtain ⟨p0, p1, p2, p3, p4⟩ := hd_cells hK
        have hs6 := hd_set1 (l.length + 1) hK
        rw [show (((l.length + 1) : Nat) : Int) = (l.length : Int) + 1 from rfl] at hs6
        have hs7 := hs6.p3.drop
        have hlen1 : (a ++ (⟨.slice ak' lk.length ck', lk, id⟩ : Ent) :: b).length = (l.length + 1) := by
          have := congrArg List.length Y1.out
          rw [List.length_append] at this
          rw [List.length_append, List.length_cons]
          try simp only [List.length_nil] at this
          omega
        have hR' := hR.out _ _ ⟨E', (d + 1) + 1, a ++ ⟨.slice ak' lk.length ck', lk, id⟩ :: b, hE, ⟨goods_mid (Y1.out ▸ hg.le hE) hv', sorted_mid (e := ⟨.slice ak' lk.length ck', lk, id⟩) rfl (Y1.out ▸ hso) ha hb, sat_tree_succ.2 ⟨q, t', Y2.out, ok', Y3.out, Y4.out, by rw [hlen1]; exact hs7⟩⟩, by rw [put1_split (e := ⟨.slice ak' lk.length ck', lk, id⟩) rfl ha hb, Y1.out]; rfl, rfl⟩
        rw [hnb.out] at hR'
        clear hR hs6 hs7 hK ha hb ok' hE hv' hlen1
        go_wp2_with fail
        try go_ret
        exact hR'

      · have H9 := hs4.p3.p2
        have hle : t.es.length ≤ 6 := by omega
        have hle := Lib.hid hle
        clear hfl
        go_wp2_with fail
        clear hs4 r0 r1 r2 r3 r4 q0 q1 q2 q3 q4
        refine wp_draw_lit [(0,3),(1,3),(2,3),(3,0),(4,0),(5,1),(6,2)] (sat E · _) (by kernel_rfl) (by kernel_rfl) rfl H9.drew ?_
        clear H9
        iterate 3 (refine wpD_pure _ rfl rfl rfl ?_; apply Exists.intro; refine ⟨fun w' => ?_, ?_, ?_⟩; (go_wp2; exact ⟨rfl, rfl, rfl⟩); rfl)
        (refine wpD_reads _ rfl rfl rfl ?_; apply Exists.intro; refine ⟨fun w' hK => ?_, ?_, ?_⟩; (obtain ⟨p0, p1, p2, p3, p4⟩ := hd_cells hK; unfold ptr at p1; go_wp2; exact ⟨rfl, rfl, rfl⟩); rfl)
        (refine wpD_reads _ rfl rfl rfl ?_; apply Exists.intro; refine ⟨fun w' hK => ?_, ?_, ?_⟩; (obtain ⟨p0, p1, p2, p3, p4⟩ := entFacts _ hK.p2; go_wp2; exact ⟨rfl, rfl, rfl⟩); rfl)
        refine wpD_does (by decide) rfl rfl (fun Nx hNx w' hK => ?_)
        go_wp2_with fail
        refine (cloneEnt E _ _ _ id lk hK hv hk).mono ?_
        rintro e w4 ⟨_, rfl, k', E', rfl, hE, hs4, hv'⟩
        obtain ⟨ak', ck', rfl⟩ := hv'.slice
        go_wp2_with fail
        refine ⟨rfl, (fun x => sat E' x _), hs4, fun _ x hx => hx.le hE, hNx _ _ ?_⟩
        clear hs4 hK hNx
        refine wpD_does (by decide) rfl rfl (fun Nx hNx w' hK => ?_)
        go_wp2_with fail
        refine (put d E' _ _ p t ⟨.slice ak' lk.length ck', lk, id⟩ hK.p3 hv' (X1.out ▸ hg.le hE) hok hle.out (X1.out ▸ hso) (X1.out ▸ hne.out)).mono ?_
        rintro e w5 ⟨_, rfl, rfl, t', a, b, e1, e2, ha, hb, ok', n1, n2, hs5⟩
        have Y1 := Lib.hid (e1.symm.trans X1.out)
        have Y2 := Lib.hid e2
        clear e1 e2
        have Y3 : Hid (1 ≤ t'.es.length) := by show 1 ≤ _; omega
        have Y4 : Hid (t'.es.length ≤ 7) := by have := hle.out; exact (by omega : t'.es.length ≤ 7)
        clear n1 n2
        go_wp2_with fail
        refine ⟨rfl, (fun x => sat E' x _), hs5.p2, fun h => (by cases h), hNx _ _ ?_⟩
        clear hs5 hK hNx
        refine wpD_nil (fun w6 hK => ?_)
        obtain ⟨p0, p1, p2, p3, p4⟩ := hd_cells hK
        have hs6 := hd_set1 (l.length + 1) hK
        rw [show (((l.length + 1) : Nat) : Int) = (l.length : Int) + 1 from rfl] at hs6
        have hs7 := hs6.p3.drop
        have hlen1 : (a ++ (⟨.slice ak' lk.length ck', lk, id⟩ : Ent) :: b).length = (l.length + 1) := by
          have := congrArg List.length Y1.out
          rw [List.length_append] at this
          rw [List.length_append, List.length_cons]
          try simp only [List.length_nil] at this
          omega
        have hR' := hR.out _ _ ⟨E', d + 1, a ++ ⟨.slice ak' lk.length ck', lk, id⟩ :: b, hE, ⟨goods_mid (Y1.out ▸ hg.le hE) hv', sorted_mid (e := ⟨.slice ak' lk.length ck', lk, id⟩) rfl (Y1.out ▸ hso) ha hb, sat_tree_succ.2 ⟨p, t', Y2.out, ok', Y3.out, Y4.out, by rw [hlen1]; exact hs7⟩⟩, by rw [put1_split (e := ⟨.slice ak' lk.length ck', lk, id⟩) rfl ha hb, Y1.out]; rfl, rfl⟩
        rw [hnb.out] at hR'
        clear hR hs6 hs7 hK ha hb ok' hE hv' hlen1
        go_wp2_with fail
        try go_ret
        exact hR'


end Go.Proofs.Ytmibiaakppkmmaa
