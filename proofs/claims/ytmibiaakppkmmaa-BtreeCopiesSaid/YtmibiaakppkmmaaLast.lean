/- The last entry under a node. -/
import Derived.Test.YtmibiaakppkmmaaShift3
namespace Go.Proofs.Ytmibiaakppkmmaa
open Go.RowKit Go.Sep
set_option linter.unusedVariables false
set_option linter.unusedSimpArgs false

/-- it stands last -/
def Lst (l : List Ent) (y : Ent) : Prop := ∃ i, l = i ++ [y]

theorem lst_of_ne {l : List Ent} (h : l ≠ []) : ∃ y, Lst l y := ⟨l.getLast h, l.dropLast, (List.dropLast_concat_getLast h).symm⟩
theorem lst_right {a b : List Ent} {y : Ent} (h : Lst (a ++ b) y) (hb : b ≠ []) : Lst b y := by
  obtain ⟨i, hi⟩ := h
  obtain ⟨y', i', rfl⟩ := lst_of_ne hb
  rw [← List.append_assoc] at hi
  have := List.append_inj_right' hi rfl
  exact ⟨i', by simpa using this⟩

theorem flat_ne {d : Nat} {t : T d} (hok : ok d t) (h : 1 ≤ t.es.length) : flat d t ≠ [] := by
  intro e
  have := (es_sub d t hok).length_le
  rw [e] at this
  simp at this
  rw [this] at h
  simp at h

/-- a node with kids, at its last kid -/
theorem split_last {d : Nat} {t : T (d + 1)} (hok : ok (d + 1) t) : ∃ ka q tq, t = mk (t.es ++ []) (ka ++ (q, tq) :: []) ∧ ka.length = t.es.length ∧ 3 ≤ tq.es.length ∧ tq.es.length ≤ 7 ∧ ok d tq := by
  have hl : t.ks.length = t.es.length + 1 := hok.1
  have hne : t.ks ≠ [] := by intro e; rw [e] at hl; simp at hl
  have hks := List.dropLast_concat_getLast hne
  have hk := ((ok_succ t).1 hok).2 (t.ks.getLast hne) (List.getLast_mem hne)
  refine ⟨t.ks.dropLast, (t.ks.getLast hne).1, (t.ks.getLast hne).2, ?_, by rw [List.length_dropLast, hl]; rfl, hk⟩
  show mk t.es t.ks = mk (t.es ++ []) (t.ks.dropLast ++ [t.ks.getLast hne])
  rw [hks, List.append_nil]

/-- on the way to the last one -/
def LWay (E : Env) (X A : Asn) (y : Ent) (d : Nat) (v : Value) (w : World) : Prop :=
  ∃ p, ∃ t : T d, ∃ B, v = .pointer (some ⟨p, 0, none⟩) ∧ sat E w (node d p t * (A * B)) ∧ (∀ w', sat E w' (node d p t * B) → sat E w' X) ∧ ok d t ∧ 1 ≤ t.es.length ∧ t.es.length ≤ 100 ∧ Lst (flat d t) y

set_option maxRecDepth 10000 in
set_option maxHeartbeats 2000000 in
theorem last (d : Nat) (E : Env) (w : World) (A : Asn) (p : Nat) (t : T d) (y : Ent) (hs : sat E w (node d p t * A)) (hok : ok d t) (h1 : 1 ≤ t.es.length) (h7 : t.es.length ≤ 100) (hy : Lst (flat d t) y) (hgy : E.vals y.k y.l) :
    Calls Try.prog 48 #[ptr p] w (Ret fun r w' => r = .agg #[y.k, .int .i64 y.id] ∧ sat E w' (node d p t * A)) := by
  refine ret_hide fun R hR => ?_
  have hs2 := hs.alloc (.cells #[.slice none 0 0, .int .i64 0] 35)
  replace hy := Lib.hid hy
  unfold ptr
  have qn := fun (W : World) a n c => run_neq_slice_nil_any (P := Try.prog) W 62 55 a n c 0 0 Try.underlying62
  go_enter Try.func48, Try.ntmps48
  go_wp2
  generalize w.alloc (.cells #[.slice none 0 0, .int .i64 0] 35) = w1 at *
  generalize w.heap.size = n at *
  go_loopw [0] (fun v wr => ∃ d', LWay E (node d p t * A) (pts n (.cells #[.slice none 0 0, .int .i64 0] 35 (0, 0))) y d' v wr) (fun v wr => least fun d' => LWay E (node d p t * A) (pts n (.cells #[.slice none 0 0, .int .i64 0] 35 (0, 0))) y d' v wr)
  case atStart => exact ⟨d, p, t, A, rfl, hs2.p2, fun w' h => h, hok, h1, h7, hy.out⟩
  case round =>
    have hI := least_spec hrel
    revert hI
    generalize hd0 : least _ = d0
    intro hI
    replace hd0 := Lib.hid hd0
    clear hrel hs2 hs
    obtain ⟨p', t', B, rfl, hsW, hwand, hok', h1', h7', hy'⟩ := hI
    replace hwand := Lib.hid hwand
    replace hy' := Lib.hid hy'
    rcases d0 with _ | d0
    · obtain ⟨i, hi⟩ := hy'.out
      rw [flat_leaf] at hi
      obtain ⟨ve, vk, hsN⟩ := sat_node.1 hsW
      obtain ⟨rfl, hsM⟩ := sat_under_zero.1 hsN.p3
      have hU := hsM
      clear hsM
      -- nd p' * (ents ve * (pts n * B))
      obtain ⟨g, cap, rfl, hcap, _⟩ := row_some hU.p2 (by omega)
      have hlen : t'.es.length = i.length + 1 := by rw [hi]; simp
      have ec : ∀ W X, sat E W (ents (.slice (some ⟨g, 0, none⟩) t'.es.length cap) t'.es * X) → g < W.heap.size ∧ W.cell? ⟨g, i.length * 2, none⟩ = some y.k ∧ W.cell? ⟨g, i.length * 2 + 1, none⟩ = some (.int .i64 y.id) ∧ W.frozen? ⟨g, i.length * 2, none⟩ = false ∧ W.frozen? ⟨g, i.length * 2 + 1, none⟩ = false := by
        intro W X h
        have h2 := ents_cell h i.length (by rw [hlen]; omega)
        have h3 : t'.es[i.length]'(by rw [hlen]; omega) = y := by simp [hi]
        rw [h3] at h2
        exact h2
      rw [hlen] at hU hcap h7'
      replace hi := Lib.hid hi
      replace ec := Lib.hid ec
      rw [hlen] at ec
      replace hlen := Lib.hid hlen
      obtain ⟨p0, p1, p2, p3, p4⟩ := nd_cells hU
      go_wp2_with fail
      clear p0 p1 p2 p3 p4
      refine wp_draw_lit [(0,3),(1,3),(2,3),(3,0),(4,3),(5,3),(6,3),(7,0),(8,3),(9,3),(10,3),(11,0),(12,2)] (sat E · _) (by kernel_rfl) (by kernel_rfl) rfl hU.drew ?_
      clear hU hsN hsW
      iterate 3 (refine wpD_pure _ rfl rfl rfl ?_; apply Exists.intro; refine ⟨fun w' => ?_, ?_, ?_⟩; (go_wp2; exact ⟨rfl, rfl, rfl⟩); rfl)
      (refine wpD_reads _ rfl rfl rfl ?_; apply Exists.intro; refine ⟨fun w' hK => ?_, ?_, ?_⟩; (obtain ⟨p0, p1, p2, p3, p4⟩ := nd_cells hK; go_wp2; exact ⟨rfl, rfl, rfl⟩); rfl)
      iterate 3 (refine wpD_pure _ rfl rfl rfl ?_; apply Exists.intro; refine ⟨fun w' => ?_, ?_, ?_⟩; (go_wp2; exact ⟨rfl, rfl, rfl⟩); rfl)
      (refine wpD_reads _ rfl rfl rfl ?_; apply Exists.intro; refine ⟨fun w' hK => ?_, ?_, ?_⟩; (obtain ⟨p0, p1, p2, p3, p4⟩ := nd_cells hK; go_wp2; exact ⟨rfl, rfl, rfl⟩); rfl)
      iterate 3 (refine wpD_pure _ rfl rfl rfl ?_; apply Exists.intro; refine ⟨fun w' => ?_, ?_, ?_⟩; (go_wp2; exact ⟨rfl, rfl, rfl⟩); rfl)
      (refine wpD_reads _ rfl rfl rfl ?_; apply Exists.intro; refine ⟨fun w' hK => ?_, ?_, ?_⟩; (obtain ⟨p0, p1, p2, p3, p4⟩ := ec.out _ _ hK.p2; go_wp2; exact ⟨rfl, rfl, rfl⟩); rfl)
      refine wpD_does (by decide) rfl rfl (fun Nx hNx w' hK => ?_)
      obtain ⟨f0, f1, f2, f3, f4⟩ := entFacts _ hK.p3
      have hs5 := (hK.p3.setCell (off := 0) y.k).setCell (off := 1) (.int .i64 y.id)
      obtain ⟨ayk, cyk, hyk⟩ := hgy.slice
      rw [hyk] at hs5
      go_wp2_with fail
      refine ⟨rfl, (fun x => sat E x _), hs5, fun h => (by cases h), hNx _ _ ?_⟩
      clear hs5 hK hNx f0 f1 f2 f3 f4
      refine wpD_nil (fun w6 hK => ?_)
      have hb := hK.block
      have f1 : w6.cell? ⟨n, 0, none⟩ = some (.slice ayk y.l.length cyk) := by rw [cell_of_block hb]; rfl
      have f2 : w6.cell? ⟨n, 1, none⟩ = some (.int .i64 y.id) := by rw [cell_of_block hb]; rfl
      have hfin := hwand.out _ (sat_node (t := t').2 ⟨_, _, (sat_under_zero (t := t').2 ⟨rfl, hK.drop⟩).r3⟩)
      have hR' := hR.out (.agg #[.slice ayk y.l.length cyk, .int .i64 y.id]) _ ⟨by rw [hyk], hfin⟩
      clear hR hfin hK hb
      clear hyk
      go_wp2
      exact bodyPost_ret (v := .agg #[.slice ayk y.l.length cyk, .int .i64 y.id]) (by simp [results, Try.results48, go_sem, f1, f2]) rfl hR'
    · obtain ⟨ka, q, tq, ht, hl, hq3, hq7, hokq⟩ := split_last hok'
      generalize hes : t'.es = es at *
      subst ht
      have hfl := flat_split (ea := es) (eb := []) (ka := ka) (kb := []) (k := (q, tq)) hl
      have hyq : Lst (flat d0 tq) y := by
        have h2 := hy'.out
        rw [hfl] at h2
        have h3 := lst_right h2 (by intro e; exact flat_ne hokq (by omega) (List.append_eq_nil_iff.1 e).1)
        rwa [show tails ([] : List Ent) (([] : List (Nat × T d0)).map fun k => flat d0 k.2) = [] from rfl, List.append_nil] at h3
      clear hfl
      obtain ⟨ve, vk, hU⟩ := open_node.1 hsW
      -- nd p' * (ents ve * (kids vk * (node q * (nodes ka * (nodes [] * (pts n * B))))))
      obtain ⟨gk, ck, rfl, hck, _⟩ := row_some hU.p3 (by simp)
      have hN : (ka.map (·.1) ++ q :: ([] : List (Nat × T d0)).map (·.1)).length = es.length + 1 := by simp [hl]
      have kc : ∀ W X, sat E W (kids (.slice (some ⟨gk, 0, none⟩) (ka.map (·.1) ++ q :: ([] : List (Nat × T d0)).map (·.1)).length ck) (ka.map (·.1) ++ q :: ([] : List (Nat × T d0)).map (·.1)) * X) → W.cell? ⟨gk, es.length, none⟩ = some (ptr q) := by
        intro W X h
        have h1 := kids_cell h es.length (by rw [hN]; omega)
        refine h1.trans ?_
        simp [← hl]
      rw [hN] at hU hck
      replace kc := Lib.hid kc
      rw [hN] at kc
      replace hl := Lib.hid hl
      replace hN := Lib.hid hN
      replace hes := Lib.hid hes
      obtain ⟨p0, p1, p2, p3, p4⟩ := nd_cells hU
      go_wp2_with fail
      clear p0 p1 p2 p3 p4 hsW
      refine wp_draw_lit [(0,3),(1,3),(2,3),(3,0),(4,3),(5,3),(6,3),(7,0),(8,3),(9,3),(10,3),(11,0),(12,3)] (sat E · _) (by kernel_rfl) (by kernel_rfl) rfl hU.drew ?_
      clear hU
      iterate 3 (refine wpD_pure _ rfl rfl rfl ?_; apply Exists.intro; refine ⟨fun w' => ?_, ?_, ?_⟩; (go_wp2; exact ⟨rfl, rfl, rfl⟩); rfl)
      (refine wpD_reads _ rfl rfl rfl ?_; apply Exists.intro; refine ⟨fun w' hK => ?_, ?_, ?_⟩; (obtain ⟨p0, p1, p2, p3, p4⟩ := nd_cells hK; go_wp2; exact ⟨rfl, rfl, rfl⟩); rfl)
      iterate 3 (refine wpD_pure _ rfl rfl rfl ?_; apply Exists.intro; refine ⟨fun w' => ?_, ?_, ?_⟩; (go_wp2; exact ⟨rfl, rfl, rfl⟩); rfl)
      (refine wpD_reads _ rfl rfl rfl ?_; apply Exists.intro; refine ⟨fun w' hK => ?_, ?_, ?_⟩; (obtain ⟨p0, p1, p2, p3, p4⟩ := nd_cells hK; go_wp2; exact ⟨rfl, rfl, rfl⟩); rfl)
      iterate 3 (refine wpD_pure _ rfl rfl rfl ?_; apply Exists.intro; refine ⟨fun w' => ?_, ?_, ?_⟩; (go_wp2; exact ⟨rfl, rfl, rfl⟩); rfl)
      (refine wpD_reads _ rfl rfl rfl ?_; apply Exists.intro; refine ⟨fun w' hK => ?_, ?_, ?_⟩; (have p0 := kc.out _ _ hK.p3; unfold ptr at p0; go_wp2; exact ⟨rfl, rfl, rfl⟩); rfl)
      iterate 1 (refine wpD_pure _ rfl rfl rfl ?_; apply Exists.intro; refine ⟨fun w' => ?_, ?_, ?_⟩; (go_wp2; exact ⟨rfl, rfl, rfl⟩); rfl)
      refine wpD_nil (fun w3 hK => ?_)
      have hW : LWay E (node d p t * A) (pts n (.cells #[.slice none 0 0, .int .i64 0] 35 (0, 0))) y d0 (.pointer (some ⟨q, 0, none⟩)) w3 :=
        ⟨q, tq, _, rfl, hK.p4.p7.p2, fun w' h => hwand.out _ (open_node.2 ⟨_, _, h.r4⟩), hokq, by omega, by omega, hyq⟩
      clear hK hwand hy' kc hl hN hes
      go_wp2_with fail
      go_roundw
      case rel => exact ⟨_, hW⟩
      case measure => rw [hd0.out]; exact Nat.lt_of_le_of_lt (least_le hW) (by omega)
end Go.Proofs.Ytmibiaakppkmmaa
