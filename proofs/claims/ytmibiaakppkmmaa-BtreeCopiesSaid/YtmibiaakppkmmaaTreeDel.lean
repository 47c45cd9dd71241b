/- An entry is taken away from a tree. -/
import Derived.Test.YtmibiaakppkmmaaDel
namespace Go.Proofs.Ytmibiaakppkmmaa
open Go.RowKit Go.Sep
set_option linter.unusedVariables false
set_option linter.unusedSimpArgs false

/-- one is taken away -/
def del1 (x : KV) (m : List KV) : List KV := m.filter fun y => decide (y ≠ x)

theorem del1_split {a b : List Ent} {x e : Ent} (hs : sorted (a ++ x :: b)) (hx : x.kv = e.kv) : del1 e.kv (kvs (a ++ x :: b)) = kvs (a ++ b) := by
  obtain ⟨_, h2, h3⟩ := sorted_append.1 hs
  have ha : ∀ y ∈ kvs a, decide (y ≠ e.kv) = true := by
    intro y hy
    obtain ⟨z, hz, rfl⟩ := List.mem_map.1 hy
    have := h3 z hz x (by simp)
    simp only [decide_eq_true_eq]
    intro h
    exact not_lt_kv (h.trans hx.symm) this
  have hb : ∀ y ∈ kvs b, decide (y ≠ e.kv) = true := by
    intro y hy
    obtain ⟨z, hz, rfl⟩ := List.mem_map.1 hy
    have := (sorted_cons.1 h2).1 z hz
    simp only [decide_eq_true_eq]
    intro h
    exact not_lt_kv (hx.trans h.symm) this
  have h4 : kvs (a ++ x :: b) = kvs a ++ x.kv :: kvs b := by simp [kvs]
  have h5 : kvs (a ++ b) = kvs a ++ kvs b := by simp [kvs]
  unfold del1
  rw [h4, h5, List.filter_append, List.filter_cons_of_neg (by simp [hx]), List.filter_eq_self.2 ha, List.filter_eq_self.2 hb]

theorem del1_out {x : KV} {m : List KV} (h : x ∉ m) : del1 x m = m := by
  unfold del1
  rw [List.filter_eq_self]
  intro y hy
  simp only [decide_eq_true_eq]
  rintro rfl
  exact h hy

theorem ents_slice {E : Env} {w : World} {A : Asn} {v : Value} {es : List Ent} (h : sat E w (ents v es * A)) : ∃ a c, v = .slice a es.length c := by
  rcases sat.ents h with ⟨rfl, rfl, _⟩ | ⟨g, cap, cur, rfl, _⟩
  · exact ⟨none, 0, rfl⟩
  · exact ⟨_, _, rfl⟩

set_option maxRecDepth 10000 in
set_option maxHeartbeats 2000000 in
theorem treeDel (E : Env) (w : World) (A : Asn) (r h : Nat) (l : List Ent) (k : Value) (lk : List Val) (id : Int) (hT : Tree E w A r h l) (hv : E.vals k lk) (hn : l.length ≤ 100000) :
    Calls Try.prog 17 #[ptr r, k, .int .i64 id] w (Ret fun v w' => ∃ h' l', Tree E w' A r h' l' ∧ kvs l' = del1 (lk, id) (kvs l) ∧ v = .bool (decide ((lk, id) ∈ kvs l))) := by
  refine ret_hide fun R hR => ?_
  obtain ⟨hg, hso, hs⟩ := hT
  obtain ⟨ak, ck, rfl⟩ := hv.slice
  have hin : inn ⟨.slice ak lk.length ck, lk, id⟩ l ↔ (lk, id) ∈ kvs l := by
    simp only [inn, kvs, List.mem_map, Ent.kv]
  unfold ptr
  have hs2 := hs.alloc (.cells #[.slice ak lk.length ck, .int .i64 id] 35)
  by_cases hi : (lk, id) ∈ kvs l
  · have hinn := Lib.hid (hin.2 hi)
    have hi' : Hid (decide ((lk, id) ∈ kvs l) = true) := by show decide _ = true; simpa using hi
    replace hi := Lib.hid hi
    clear hin
    have qe := fun (W : World) a n c => run_neq_slice_nil_any (P := Try.prog) W 62 55 a n c 0 0 Try.underlying62
    go_enter Try.func17, Try.ntmps17
    go_wp2_with fail
    refine (has E _ _ r h l ⟨.slice ak lk.length ck, lk, id⟩ true (hs2.to (sep_left_comm _ _ _)) hv hg hso (Iff.intro (fun _ => hinn.out) (fun _ => rfl))).mono ?_
    rintro e w3 ⟨_, rfl, rfl, hs3⟩
    generalize w.heap.size = n at *
    clear hs2 hs
    rcases h with _ | d
    · obtain ⟨rfl, _⟩ := sat_tree_zero.1 hs3
      obtain ⟨x, hx, _⟩ := hinn.out
      cases hx
    · obtain ⟨p, t, hfl, hok, h1, h7, hs4⟩ := sat_tree_succ.1 hs3
      clear hs3
      -- hd * (node * (pts n * A))
      subst hfl
      go_wp2_with fail
      refine wp_draw_lit [(0,3),(1,3),(2,3),(3,0),(4,0),(5,2)] (sat E · _) (by kernel_rfl) (by kernel_rfl) rfl hs4.drew ?_
      clear hs4
      iterate 3 (refine wpD_pure _ rfl rfl rfl ?_; apply Exists.intro; refine ⟨fun w' => ?_, ?_, ?_⟩; (go_wp2; exact ⟨rfl, rfl, rfl⟩); rfl)
      (refine wpD_reads _ rfl rfl rfl ?_; apply Exists.intro; refine ⟨fun w' hK => ?_, ?_, ?_⟩; (obtain ⟨p0, p1, p2, p3, p4⟩ := hd_cells hK; unfold ptr at p1; go_wp2; exact ⟨rfl, rfl, rfl⟩); rfl)
      (refine wpD_reads _ rfl rfl rfl ?_; apply Exists.intro; refine ⟨fun w' hK => ?_, ?_, ?_⟩; (obtain ⟨p0, p1, p2, p3, p4⟩ := entFacts _ hK.p3; go_wp2; exact ⟨rfl, rfl, rfl⟩); rfl)
      refine wpD_does (by decide) rfl rfl (fun Nx hNx w' hK => ?_)
      go_wp2_with fail
      refine (del d E _ _ p t ⟨.slice ak lk.length ck, lk, id⟩ hK.p2 hv hg hok h1 h7 hso hinn.out).mono ?_
      rintro e w5 ⟨_, rfl, rfl, t', hd, hs5⟩
      go_wp2_with fail
      refine ⟨rfl, (fun x => sat E x _), hs5.p2, fun h => (by cases h), hNx _ _ ?_⟩
      clear hs5 hK hNx
      refine wpD_nil (fun w6 hK => ?_)
      obtain ⟨a, x, b, e1, e2, e3, e4, e5, e6⟩ := hd
      have hkv : Hid (kvs (a ++ b) = del1 (lk, id) (kvs (flat d t))) := by
        show kvs (a ++ b) = _
        rw [e1]; rw [e1] at hso
        exact (del1_split (e := ⟨.slice ak lk.length ck, lk, id⟩) hso e2).symm
      have hso' : sorted (a ++ b) := by rw [e1] at hso; exact sorted_sub hso (List.Sublist.append (List.Sublist.refl _) (List.sublist_cons_self _ _))
      have hg' : Env.goods E (a ++ b) := by rw [e1] at hg; exact goods_sub hg (List.Sublist.append (List.Sublist.refl _) (List.sublist_cons_self _ _))
      have hlen : (flat d t).length = (a ++ b).length + 1 := by rw [e1]; simp; omega
      have hR1 := fun w' h' (hs' : sat E w' (tree r h' (a ++ b) * A)) => hR.out (.bool true) w' ⟨h', a ++ b, ⟨hg', hso', hs'⟩, hkv.out, by rw [hi'.out]⟩
      replace hR1 := Lib.hid hR1
      rw [hlen] at hK
      have hK := hK.p3.drop
      have hn' : (a ++ b).length ≤ 100000 := by omega
      have hab : flat d t' = a ++ b := e3
      replace hi' := Lib.hid hi'
      generalize hN : (a ++ b).length = N at *
      obtain ⟨p0, p1, p2, p3, p4⟩ := hd_cells hK
      have hs7 := hd_set1 N hK
      unfold ptr at p1
      rw [show ((N + 1 : Nat) : Int) = (N : Int) + 1 from rfl] at p2
      replace hN := Lib.hid hN
      replace hab := Lib.hid hab
      replace hkv := Lib.hid hkv
      replace hlen := Lib.hid hlen
      clear hR e1 e2 e3 hso' hg'
      obtain ⟨q0, q1, q2, q3, q4⟩ := hd_cells hs7
      unfold ptr at q1
      obtain ⟨ve, vk, hU⟩ := sat_node.1 hs7.p2
      -- nd p * (ents * (under * (hd * A)))
      obtain ⟨s0, s1, s2, s3, s4⟩ := nd_cells hU
      by_cases hes : 1 ≤ t'.es.length
      · obtain ⟨g, cap, rfl, hcap, _⟩ := row_some hU.p2 (by omega)
        have hR' := hR1.out _ (d + 1) (sat_tree_succ.2 ⟨p, t', hab.out, e4, hes, e5, by rw [hN.out]; exact hs7⟩)
        have hes' : 0 < t'.es.length := hes
        clear hR1 hU hs7 hK
        generalize t'.es.length = m at *
        go_wp2_with fail
        try go_ret
        exact hR'
      · have he0 : t'.es = [] := List.eq_nil_of_length_eq_zero (by omega)
        obtain ⟨ae, ce, rfl⟩ := ents_slice hU.p2
        rw [he0, List.length_nil] at s1
        rcases d with _ | d
        · obtain ⟨rfl, hV⟩ := sat_under_zero.1 hU.p3
          have h0 : a ++ b = [] := by rw [← hab.out]; exact he0
          have hN0 : N = 0 := by rw [← hN.out, h0]; rfl
          have hs8 := hd_set0 (.pointer none) (hV.drop.drop)
          have hR' := hR1.out _ 0 (sat_tree_zero.2 ⟨h0, hs8.to (show hd r (.pointer none) N * A = hd r (.pointer none) 0 * A by rw [hN0])⟩)
          replace h0 := Lib.hid h0
          replace hN0 := Lib.hid hN0
          replace he0 := Lib.hid he0
          clear hR1 hU hs7 hs8 hK hV
          go_wp2_with fail
          try go_ret
          exact hR'
        · obtain ⟨ka, q, tq, ht, hl, hq3, hq7, hokq⟩ := split_last e4
          rw [he0] at ht hl
          obtain rfl : ka = [] := List.eq_nil_of_length_eq_zero hl
          have hflq : flat d tq = a ++ b := by
            rw [← hab.out, ht]
            have := flat_split (d := d) (ea := []) (eb := []) (ka := []) (kb := []) (k := (q, tq)) rfl
            rw [this]
            simp [heads, tails]
          rw [ht] at hs7
          obtain ⟨ve2, vk2, hV⟩ := open_node.1 hs7.p2
          obtain ⟨gk, ck, rfl, hck, _⟩ := row_some hV.p3 (by simp)
          obtain ⟨u0, u1, u2, u3, u4⟩ := nd_cells hV
          have kc := kid_at (la := []) (i := 0) hV.p3 rfl
          unfold ptr at kc
          have hs8 := hd_set0 (ptr q) hV.p7
          unfold ptr at hs8
          have hs9 := hs8.to (show _ = hd r (ptr q) N * (nd p ve2 (.slice (some ⟨gk, 0, none⟩) 1 ck) * (ents ve2 [] * (kids (.slice (some ⟨gk, 0, none⟩) 1 ck) [q] * (nodes d ([] : List (Nat × T d)) * (nodes d ([] : List (Nat × T d)) * (node d q tq * A)))))) by
            simp only [List.map_nil, List.nil_append, List.append_nil, List.length_cons, List.length_nil, ptr]
            ac_rfl)
          have hR' := hR1.out _ (d + 1) (sat_tree_succ.2 ⟨q, tq, hflq, hokq, by omega, hq7, by rw [hN.out]; exact hs9.p2.drop.p2.drop.p2.drop.p2.drop.p2.drop⟩)
          simp only [List.map_nil, List.nil_append, List.length_cons, List.length_nil] at u2
          replace he0 := Lib.hid he0
          replace ht := Lib.hid ht
          replace hflq := Lib.hid hflq
          clear hR1 hU hs7 hs8 hs9 hK hV hl s2 u1
          go_wp2_with fail
          try go_ret
          exact hR'
  · have hb : Hid (¬ inn ⟨.slice ak lk.length ck, lk, id⟩ l) := fun h => absurd (hin.1 h) hi
    have hi' : decide ((lk, id) ∈ kvs l) = false := by simpa using hi
    have hR1 := fun (w' : World) (h' : sat E w' (tree r h l * A)) => hR.out (.bool false) w' ⟨h, l, ⟨hg, hso, h'⟩, (del1_out hi).symm, by rw [hi']⟩
    replace hR1 := Lib.hid hR1
    replace hi := Lib.hid hi
    clear hR hin hi'
    go_enter Try.func17, Try.ntmps17
    go_wp2_with fail
    refine (has E _ _ r h l ⟨.slice ak lk.length ck, lk, id⟩ false (hs2.to (sep_left_comm _ _ _)) hv hg hso (Iff.intro (fun h => by cases h) (fun h => absurd h hb.out))).mono ?_
    rintro e w3 ⟨_, rfl, rfl, hs3⟩
    have hR' := hR1.out _ (hs3.to (sep_left_comm _ _ _)).drop
    clear hR1 hs3 hs2 hs hg hso hb hi
    go_wp2_with fail
    try go_ret
    exact hR'
end Go.Proofs.Ytmibiaakppkmmaa
