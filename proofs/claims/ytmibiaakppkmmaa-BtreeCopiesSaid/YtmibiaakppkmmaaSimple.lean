/- New, Len, Height of a tree; a key of one number; the same numbers; the same entries. -/
import Derived.Test.YtmibiaakppkmmaaReads
namespace Go.Proofs.Ytmibiaakppkmmaa
open Go.RowKit Go.Sep
set_option linter.unusedVariables false
set_option linter.unusedSimpArgs false

theorem treeNew (E : Env) (w : World) (A : Asn) (hs : sat E w A) : Calls Try.prog 19 #[] w (Ret fun v w' => ∃ r, v = ptr r ∧ Tree E w' A r 0 []) := by
  refine ret_hide fun R hR => ?_
  have hs2 := hs.alloc (.cells #[.pointer none, .int .i64 0] 57)
  have hR' := hR.out _ _ ⟨_, rfl, (fun _ h => by cases h), List.Pairwise.nil, sat_tree_zero.2 ⟨rfl, hs2⟩⟩
  unfold ptr at hR'
  clear hR hs2 hs
  go_enter Try.func19, Try.ntmps19
  go_wp2
  try go_ret
  exact hR'

theorem tree_hd {E : Env} {w : World} {A : Asn} {r h : Nat} {l : List Ent} (hs : sat E w (tree r h l * A)) : ∃ v B, sat E w (hd r v l.length * B) ∧ (v = .pointer none ∨ ∃ p, v = ptr p) := by
  rcases h with _ | d
  · obtain ⟨rfl, h⟩ := sat_tree_zero.1 hs
    exact ⟨_, _, h, .inl rfl⟩
  · obtain ⟨p, t, _, _, _, _, h⟩ := sat_tree_succ.1 hs
    exact ⟨_, _, h, .inr ⟨p, rfl⟩⟩

theorem treeLen (E : Env) (w : World) (A : Asn) (r h : Nat) (l : List Ent) (hs : sat E w (tree r h l * A)) :
    Calls Try.prog 16 #[ptr r] w (Ret fun v w' => v = .int .i64 l.length ∧ w' = w) := by
  refine ret_hide fun R hR => ?_
  obtain ⟨v, B, hs2, _⟩ := tree_hd hs
  obtain ⟨r0, r1, r2, r3, r4⟩ := hd_cells hs2
  have hR' := hR.out _ _ ⟨rfl, rfl⟩
  clear hR hs hs2
  unfold ptr
  go_enter Try.func16, Try.ntmps16
  go_wp2
  try go_ret
  exact hR'

set_option maxHeartbeats 1000000 in
theorem treeHeight (E : Env) (w : World) (A : Asn) (r h : Nat) (l : List Ent) (hs : sat E w (tree r h l * A)) (hh : h ≤ 1000000) :
    Calls Try.prog 18 #[ptr r] w (Ret fun v w' => v = .int .i64 h ∧ w' = w) := by
  refine ret_hide fun R hR => ?_
  have hR' := hR.out _ _ ⟨rfl, rfl⟩
  replace hR' := Lib.hid hR'
  clear hR
  unfold ptr
  have qn := fun (W : World) a n c => run_neq_slice_nil_any (P := Try.prog) W 62 55 a n c 0 0 Try.underlying62
  rcases h with _ | D
  · obtain ⟨rfl, hs3⟩ := sat_tree_zero.1 hs
    obtain ⟨r0, r1, r2, r3, r4⟩ := hd_cells hs3
    clear hs hs3
    replace hR' := hR'.out
    go_enter Try.func18, Try.ntmps18
    go_wp2
    try go_ret
    exact hR'
  · obtain ⟨p, t, hfl, hok, h1, h7, hs2⟩ := sat_tree_succ.1 hs
    clear hs
    have hs := hs2
    clear hs2
    obtain ⟨r0, r1, r2, r3, r4⟩ := hd_cells hs
    unfold ptr at r1
    go_enter Try.func18, Try.ntmps18
    go_wp2
    go_loopw [3, 4] (fun i v wr => wr = w ∧ ∃ d p, ∃ t : T d, ∃ B, d ≤ D ∧ i = .int .i64 ((D + 1 - d : Nat) : Int) ∧ v = .pointer (some ⟨p, 0, none⟩) ∧ ok d t ∧ sat E wr (node d p t * B)) (fun i v wr => D + 1 - (intOf i).toNat)
    case atStart => exact ⟨rfl, D, p, t, _, Nat.le_refl _, by simp, rfl, hok, hs.p2⟩
    case round =>
      clear hs hok h1 h7 hfl t r0 r1 r2 r3 r4
      obtain ⟨rfl, d, p', t, B, hd, rfl, rfl, hok, hs⟩ := hrel
      rcases d with _ | d
      · obtain ⟨ve, vk, hs⟩ := sat_node.1 hs
        obtain ⟨rfl, _⟩ := sat_under_zero.1 hs.p3
        obtain ⟨p0, p1, p2, p3, p4⟩ := nd_cells hs
        replace hR' := hR'.out
        clear hs hok
        go_wp2
        try go_ret
        exact hR'
      · have hk := hok.1
        obtain ⟨k, ks, hks⟩ : ∃ k ks, t.ks = k :: ks := by
          cases h : t.ks with
          | nil => have : t.ks.length = t.es.length + 1 := hk; rw [h] at this; simp at this
          | cons k ks => exact ⟨k, ks, rfl⟩
        have ht : t = mk t.es ([] ++ (k.1, k.2) :: ks) := by
          show mk t.es t.ks = _
          rw [hks]; rfl
        have hok2 : ok d k.2 := (hok.2 k (show k ∈ t.ks by rw [hks]; simp)).2.2
        rw [ht] at hs
        obtain ⟨ve, vk, hs⟩ := open_node.1 hs
        obtain ⟨gk, ck, rfl, hck, _⟩ := row_some hs.p3 (by simp)
        obtain ⟨p0, p1, p2, p3, p4⟩ := nd_cells hs
        have c0 := kids_cell hs.p3 0 (by simp)
        have hs' := hs.p4
        simp only [List.map_nil, List.nil_append, List.getElem_cons_zero, List.length_cons, List.length_map] at c0 p2
        unfold ptr at c0
        clear hs hok hk ht hks hck
        have hpos : 0 < ks.length + 1 := by omega
        generalize ks.length + 1 = N at *
        have e1 : ((D + 1 - (d + 1) : Nat) : Int) = ((D - d : Nat) : Int) := by congr 1; omega
        rw [e1]
        clear e1
        have hdd : D - d ≤ 1000000 := by omega
        have hde : D + 1 - d = D - d + 1 := by omega
        replace hde := Lib.hid hde
        generalize hX : D - d = X at *
        replace hX := Lib.hid hX
        go_wp2
        go_roundw
        case rel => exact ⟨trivial, d, k.1, k.2, _, by omega, by rw [hde.out]; go_num, rfl, hok2, hs'⟩
        case measure => simp [intOf]; have := hX.out; omega

/-- a key of one number -/
def num (n : Int) : List Val := [⟨1, n, 0, []⟩]

theorem oneKey (E : Env) (w : World) (A : Asn) (n : Int) (hs : sat E w A) : Calls Try.prog 25 #[.int .i64 n] w (Ret fun v w' => ∃ E', E.le E' ∧ sat E' w' A ∧ E'.vals v (num n)) := by
  refine ret_hide fun R hR => ?_
  have hs2 := hs.alloc (.cells (valCells (num n)).toArray 52)
  have hs3 := hs2.mk_new (n := 1) (sz := 4) rfl (by decide)
  obtain ⟨E', hE, hs4, hv⟩ := vals_freeze (l := num n) (by simp [num]) hs3
  have hR' := hR.out _ _ ⟨E', hE, hs4, hv⟩
  clear hR hs2 hs3 hs4 hv hs
  simp only [valCells, num, Val.cells, List.flatMap_cons, List.flatMap_nil, List.append_nil] at hR'
  go_enter Try.func25, Try.ntmps25
  go_wp2
  try go_ret
  exact hR'

set_option maxHeartbeats 1000000 in
/-- the same numbers -/
theorem sameInts (E : Env) (w : World) (A : Asn) (v1 v2 : Value) (l1 l2 : List Int) (hs : sat E w A) (h1 : Env.ints E v1 l1) (h2 : Env.ints E v2 l2) :
    Calls Try.prog 14 #[v1, v2] w (Ret fun v w' => v = .bool (decide (l1 = l2)) ∧ sat E w' A) := by
  obtain ⟨hn1, a1, b1, o1, cap1, rfl, ha1, h1⟩ := h1
  obtain ⟨hn2, a2, b2, o2, cap2, rfl, ha2, h2⟩ := h2
  by_cases hl : l1.length = l2.length
  · rcases ha1 with ⟨rfl, hl1⟩ | rfl <;> rcases ha2 with ⟨rfl, hl2⟩ | rfl
    all_goals
      have hl' : Hid (l1.length = l2.length) := hl
      go_enter Try.func14, Try.ntmps14
      go_wp2
      go_loopw [5] (fun i wr => ∃ k : Nat, k ≤ l1.length ∧ i = .int .i64 k ∧ sat E wr A ∧ l1.take k = l2.take k) (fun i _ => l1.length - (intOf i).toNat)
      case atStart => exact ⟨0, Nat.zero_le _, rfl, hs, rfl⟩
      case round =>
        obtain ⟨k, hk, rfl, hs, ht⟩ := hrel
        have ht' := Lib.hid ht
        clear ht hl
        by_cases hlt : k < l2.length
        · have hlt1 : k < l1.length := by have := hl'.out; omega
          first
            | exact no_lt hl1 hlt1
            | exact no_lt hl2 hlt
            | have lt1 := hs.cell_lt (h1 k hlt1)
              have c1 := hs.cell (h1 k hlt1)
              have lt2 := hs.cell_lt (h2 k hlt)
              have d1 := hs.cell (h2 k hlt)
              clear h1 h2
              by_cases hz : l1[k] = l2[k]
              · have ht2 := Lib.hid (take_eq_step l1 l2 k hlt1 hlt ht'.out hz)
                clear ht'
                go_wp2
                go_quiet (fail)
                go_wp2
                go_roundw
                case rel => exact ⟨k + 1, by omega, by go_num, sat.drewN hs _, ht2.out⟩
                case measure => simp [intOf]; omega
              · have hne : Hid (decide (l1 = l2) = false) := decide_eq_false (fun e => hz (by subst e; rfl))
                clear ht'
                go_wp2
                go_quiet (fail)
                go_wp2
                go_ret
                exact ⟨_, rfl, by rw [hne.out]; first | done | rfl, sat.drewN hs _⟩
        · have he : Hid (decide (l1 = l2) = true) := decide_eq_true (by have h := ht'.out; rwa [List.take_of_length_le (by have := hl'.out; omega), List.take_of_length_le (by omega)] at h)
          have hlt1 : ¬ k < l1.length := by have := hl'.out; omega
          go_wp2
          go_ret
          exact ⟨_, rfl, by rw [he.out]; first | done | rfl, hs⟩
  · have hne : Hid (decide (l1 = l2) = false) := decide_eq_false (fun e => hl (by rw [e]))
    clear ha1 ha2 h1 h2
    go_enter Try.func14, Try.ntmps14
    go_wp2
    all_goals
      go_ret
      exact ⟨_, rfl, by rw [hne.out]; first | done | rfl, hs⟩


theorem kvs_get {l : List Ent} {k : Nat} (h : k < l.length) : (kvs l)[k]'(by simpa [kvs] using h) = (l[k].l, l[k].id) := by simp [kvs, Ent.kv]

set_option maxRecDepth 10000 in
set_option maxHeartbeats 2000000 in
/-- the same entries -/
theorem sameEnts (E : Env) (w : World) (A : Asn) (v1 v2 : Value) (l1 l2 : List Ent) (hs : sat E w A) (h1 : Env.ents E v1 l1) (h2 : Env.ents E v2 l2) :
    Calls Try.prog 12 #[v1, v2] w (Ret fun v w' => v = .bool (decide (kvs l1 = kvs l2)) ∧ sat E w' A) := by
  obtain ⟨hn1, hg1, a1, b1, o1, cap1, rfl, ha1, h1⟩ := h1
  obtain ⟨hn2, hg2, a2, b2, o2, cap2, rfl, ha2, h2⟩ := h2
  replace h1 := Lib.hid h1
  replace h2 := Lib.hid h2
  have kl1 : (kvs l1).length = l1.length := by simp [kvs]
  have kl2 : (kvs l2).length = l2.length := by simp [kvs]
  replace kl1 := Lib.hid kl1
  replace kl2 := Lib.hid kl2
  refine ret_hide fun R hR => ?_
  by_cases hl : l1.length = l2.length
  · rcases ha1 with ⟨rfl, hl1⟩ | rfl <;> rcases ha2 with ⟨rfl, hl2⟩ | rfl
    all_goals
      have hl' : Hid (l1.length = l2.length) := hl
      go_enter Try.func12, Try.ntmps12
      go_wp2
      go_loopw [5] (fun i wr => ∃ k : Nat, k ≤ l1.length ∧ i = .int .i64 k ∧ sat E wr A ∧ (kvs l1).take k = (kvs l2).take k) (fun i _ => l1.length - (intOf i).toNat)
      case atStart => exact ⟨0, Nat.zero_le _, rfl, hs, rfl⟩
      case round =>
        clear hs
        obtain ⟨k, hk, rfl, hs, ht⟩ := hrel
        have ht' := Lib.hid ht
        clear ht hl
        by_cases hlt : k < l2.length
        · have hlt1 : k < l1.length := by have := hl'.out; omega
          first
            | exact no_lt hl1 hlt1
            | exact no_lt hl2 hlt
            | have hv1 : E.vals l1[k].k l1[k].l := hg1 _ (List.getElem_mem _)
              have hv2 : E.vals l2[k].k l2[k].l := hg2 _ (List.getElem_mem _)
              have hkk1 := kvs_get hlt1
              have hkk2 := kvs_get hlt
              replace hkk1 := Lib.hid hkk1
              replace hkk2 := Lib.hid hkk2
              by_cases hid : l1[k].id = l2[k].id
              · have Y := Lib.hid hid
                have hz1 : (l1[k].id != l2[k].id) = false := by simp [hid]
                clear hid
                go_wp2
                refine wp_draw_lit [(0,3),(1,3),(2,3),(3,3),(4,0),(5,3),(6,3),(7,3),(8,3),(9,0),(10,3),(11,3),(12,3),(13,3),(14,3),(15,3),(16,0),(17,3),(18,3),(19,3),(20,3),(21,0),(22,2),(23,3),(24,3)] (sat E · A) (by kernel_rfl) (by kernel_rfl) rfl hs.drew ?_
                iterate 4 (refine wpD_pure _ rfl rfl rfl ?_; apply Exists.intro; refine ⟨fun w' => ?_, ?_, ?_⟩; (go_wp2; exact ⟨rfl, rfl, rfl⟩); rfl)
                (refine wpD_reads _ rfl rfl rfl ?_; apply Exists.intro; refine ⟨fun w' hK => ?_, ?_, ?_⟩; (obtain ⟨g0, g1, g2⟩ := sat.ent2 hK (h1.out k hlt1); go_wp2; exact ⟨rfl, rfl, rfl⟩); rfl)
                iterate 4 (refine wpD_pure _ rfl rfl rfl ?_; apply Exists.intro; refine ⟨fun w' => ?_, ?_, ?_⟩; (go_wp2; exact ⟨rfl, rfl, rfl⟩); rfl)
                (refine wpD_reads _ rfl rfl rfl ?_; apply Exists.intro; refine ⟨fun w' hK => ?_, ?_, ?_⟩; (obtain ⟨g0, g1, g2⟩ := sat.ent2 hK (h2.out k hlt); go_wp2; exact ⟨rfl, rfl, rfl⟩); rfl)
                iterate 6 (refine wpD_pure _ rfl rfl rfl ?_; apply Exists.intro; refine ⟨fun w' => ?_, ?_, ?_⟩; (go_wp2; exact ⟨rfl, rfl, rfl⟩); rfl)
                (refine wpD_reads _ rfl rfl rfl ?_; apply Exists.intro; refine ⟨fun w' hK => ?_, ?_, ?_⟩; (obtain ⟨g0, g1, g2⟩ := sat.ent2 hK (h1.out k hlt1); go_wp2; exact ⟨rfl, rfl, rfl⟩); rfl)
                iterate 4 (refine wpD_pure _ rfl rfl rfl ?_; apply Exists.intro; refine ⟨fun w' => ?_, ?_, ?_⟩; (go_wp2; exact ⟨rfl, rfl, rfl⟩); rfl)
                (refine wpD_reads _ rfl rfl rfl ?_; apply Exists.intro; refine ⟨fun w' hK => ?_, ?_, ?_⟩; (obtain ⟨g0, g1, g2⟩ := sat.ent2 hK (h2.out k hlt); go_wp2; exact ⟨rfl, rfl, rfl⟩); rfl)
                refine wpD_does (by decide) rfl rfl (fun Nx hNx w' hK => ?_)
                go_wp2_with fail
                refine (refSame E _ _ _ _ _ _ hK hv1 hv2).mono ?_
                rintro e w3 ⟨_, rfl, rfl, hs3⟩
                generalize hbb : decide (l1[k].l = l2[k].l) = bb
                replace hbb := Lib.hid hbb
                go_wp2_with fail
                refine ⟨rfl, (sat E · A), hs3, fun h => (by cases h), hNx _ _ ?_⟩
                clear hs3 hK hNx hs
                iterate 2 (refine wpD_pure _ rfl rfl rfl ?_; apply Exists.intro; refine ⟨fun w' => ?_, ?_, ?_⟩; (go_wp2; exact ⟨rfl, rfl, rfl⟩); rfl)
                refine wpD_nil (fun w5 hs => ?_)
                rcases bb with _ | _
                rotate_left
                · have hz : l1[k].l = l2[k].l := by simpa using hbb.out
                  have ht2 := Lib.hid (take_eq_step (kvs l1) (kvs l2) k (by rw [kl1.out]; exact hlt1) (by rw [kl2.out]; exact hlt) ht'.out (by rw [hkk1.out, hkk2.out, hz, Y.out]))
                  replace hz := Lib.hid hz
                  clear ht' hkk1 hkk2 hR
                  go_wp2
                  go_roundw
                  case rel => exact ⟨k + 1, by omega, by go_num, hs, ht2.out⟩
                  case measure => simp [intOf]; omega
                · have hz : ¬ l1[k].l = l2[k].l := by simpa using hbb.out
                  have hne : Hid (decide (kvs l1 = kvs l2) = false) := decide_eq_false (fun e => hz (by
                    have e1 : (l1[k].l, l1[k].id) = (l2[k].l, l2[k].id) := by rw [← hkk1.out, ← hkk2.out]; simp only [e]
                    exact congrArg Prod.fst e1))
                  have hR' := hR.out _ _ ⟨rfl, hs⟩
                  rw [hne.out] at hR'
                  replace hz := Lib.hid hz
                  clear ht' hkk1 hkk2 hR
                  go_wp2
                  try go_ret
                  exact hR'
              · have hne : Hid (decide (kvs l1 = kvs l2) = false) := decide_eq_false (fun e => hid (by
                    have e1 : (l1[k].l, l1[k].id) = (l2[k].l, l2[k].id) := by rw [← hkk1.out, ← hkk2.out]; simp only [e]
                    exact congrArg Prod.snd e1))
                have hR1 := fun w' (h' : sat E w' A) => hR.out _ w' ⟨rfl, h'⟩
                rw [hne.out] at hR1
                replace hR1 := Lib.hid hR1
                clear ht' hkk1 hkk2 hR
                have hz1 : (l1[k].id != l2[k].id) = true := by simp [hid]
                clear hid
                go_wp2
                refine wp_draw_lit [(0,3),(1,3),(2,3),(3,3),(4,0),(5,3),(6,3),(7,3),(8,3),(9,0),(10,3),(11,3),(12,3),(13,3),(14,3),(15,3),(16,0),(17,3),(18,3),(19,3),(20,3),(21,0),(22,2),(23,3),(24,3)] (sat E · A) (by kernel_rfl) (by kernel_rfl) rfl hs.drew ?_
                iterate 4 (refine wpD_pure _ rfl rfl rfl ?_; apply Exists.intro; refine ⟨fun w' => ?_, ?_, ?_⟩; (go_wp2; exact ⟨rfl, rfl, rfl⟩); rfl)
                (refine wpD_reads _ rfl rfl rfl ?_; apply Exists.intro; refine ⟨fun w' hK => ?_, ?_, ?_⟩; (obtain ⟨g0, g1, g2⟩ := sat.ent2 hK (h1.out k hlt1); go_wp2; exact ⟨rfl, rfl, rfl⟩); rfl)
                iterate 4 (refine wpD_pure _ rfl rfl rfl ?_; apply Exists.intro; refine ⟨fun w' => ?_, ?_, ?_⟩; (go_wp2; exact ⟨rfl, rfl, rfl⟩); rfl)
                (refine wpD_reads _ rfl rfl rfl ?_; apply Exists.intro; refine ⟨fun w' hK => ?_, ?_, ?_⟩; (obtain ⟨g0, g1, g2⟩ := sat.ent2 hK (h2.out k hlt); go_wp2; exact ⟨rfl, rfl, rfl⟩); rfl)
                iterate 2 (refine wpD_pure _ rfl rfl rfl ?_; apply Exists.intro; refine ⟨fun w' => ?_, ?_, ?_⟩; (go_wp2; exact ⟨rfl, rfl, rfl⟩); rfl)
                iterate 12 (refine wpD_pass rfl (by kernel_rfl) ?_; apply Exists.intro; refine ⟨fun w' => ?_, ?_, ?_⟩; (go_wp2; exact ⟨rfl, rfl, rfl⟩); rfl)
                iterate 1 (refine wpD_pure _ rfl rfl rfl ?_; apply Exists.intro; refine ⟨fun w' => ?_, ?_, ?_⟩; (go_wp2; exact ⟨rfl, rfl, rfl⟩); rfl)
                refine wpD_nil (fun w5 hs => ?_)
                have hR' := hR1.out _ hs
                clear hR1
                go_wp2
                try go_ret
                exact hR'
        · have he : Hid (decide (kvs l1 = kvs l2) = true) := decide_eq_true (by have h := ht'.out; rwa [List.take_of_length_le (by rw [kl1.out]; have := hl'.out; omega), List.take_of_length_le (by rw [kl2.out]; omega)] at h)
          have hlt1 : ¬ k < l1.length := by have := hl'.out; omega
          have hR' := hR.out _ _ ⟨rfl, hs⟩
          rw [he.out] at hR'
          clear hR
          go_wp2
          try go_ret
          exact hR'
  · have hne : Hid (decide (kvs l1 = kvs l2) = false) := decide_eq_false (fun e => hl (by rw [← kl1.out, ← kl2.out, e]))
    have hR' := hR.out _ _ ⟨rfl, hs⟩
    rw [hne.out] at hR'
    clear ha1 ha2 h1 h2 hR
    go_enter Try.func12, Try.ntmps12
    go_wp2
    all_goals
      try go_ret
      exact hR'


end Go.Proofs.Ytmibiaakppkmmaa
