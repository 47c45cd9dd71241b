/- Whether a tree's nodes are as they should be: they are. -/
import Derived.Test.YtmibiaakppkmmaaStps
namespace Go.Proofs.Ytmibiaakppkmmaa
open Go.RowKit Go.Sep
set_option linter.unusedVariables false
set_option linter.unusedSimpArgs false

def hiI (d k : Nat) : Int := if k = 0 then 0 else (d : Int) + 1

theorem split_kid {d : Nat} (ks : List (Nat × T d)) (k : Nat) (h : k < ks.length) : ∃ ka q tk kb, ks = ka ++ (q, tk) :: kb ∧ ka.length = k := by
  refine ⟨ks.take k, ks[k].1, ks[k].2, ks.drop (k + 1), ?_, by rw [List.length_take]; omega⟩
  show ks = ks.take k ++ ks[k] :: ks.drop (k + 1)
  rw [← List.drop_eq_getElem_cons, List.take_append_drop]

set_option maxRecDepth 100000 in
set_option maxHeartbeats 4000000 in
theorem wellNode (d : Nat) : ∀ (E : Env) (w : World) (A : Asn) (p : Nat) (t : T d) (top : Bool) (hs : sat E w (node d p t * A)) (hok : ok d t) (h1 : 1 ≤ t.es.length) (h7 : t.es.length ≤ 7) (h3 : top = false → 3 ≤ t.es.length) (hd : d ≤ 1000000),
    Calls Try.prog 35 #[ptr p, .bool top] w (Ret fun r w' => r = .tuple #[.int .i64 ((d : Int) + 1), .bool true] ∧ sat E w' (node d p t * A)) := by
  induction d with
  | zero =>
    intro E w A p t top hs hok h1 h7 h3 hd
    refine ret_hide fun R hR => ?_
    have hR' := hR.out _ _ ⟨rfl, hs⟩
    clear hR
    obtain ⟨ve, vk, hs⟩ := sat_node.1 hs
    obtain ⟨rfl, _⟩ := sat_under_zero.1 hs.p3
    obtain ⟨g, c, rfl, _⟩ := row_some hs.p2 (by omega)
    obtain ⟨p0, p1, p2, p3, p4⟩ := nd_cells hs
    clear hs hok
    have h7' : ¬ ((7 : Int) < t.es.length) := by omega
    have h1' : ¬ ((t.es.length : Int) < 1) := by omega
    generalize t.es.length = m at *
    have qe := fun (W : World) n c => Lib.run_eql_slice_nil (P := Try.prog) W 62 55 none n c 0 0 Try.underlying62
    unfold ptr
    rcases top with _ | _
    · have h3' : ¬ ((m : Int) < 3) := by have := h3 rfl; omega
      clear h3
      go_enter Try.func35, Try.ntmps35
      go_wp2
      try go_ret2
      exact hR'
    · clear h3
      go_enter Try.func35, Try.ntmps35
      go_wp2
      try go_ret2
      exact hR'
  | succ d ih =>
    intro E w A p t top hs hok h1 h7 h3 hd
    refine ret_hide fun R hR => ?_
    have hR1 := fun w' (h : sat E w' (node (d + 1) p t * A)) => hR.out _ w' ⟨rfl, h⟩
    replace hR1 := Lib.hid hR1
    clear hR
    obtain ⟨hkl, hkk⟩ := (ok_succ t).1 hok
    obtain ⟨ve, vk, hs⟩ := sat_node.1 hs
    have hU := under_kids hs.p3
    -- kids * (nodes * (nd * (ents * A)))
    obtain ⟨g, c, rfl, _⟩ := row_some hs.p2 (by omega)
    obtain ⟨gk, ck, rfl, hck, _⟩ := row_some hU (by rw [List.length_map]; show t.ks.length ≠ 0; omega)
    have hN : ((Nd.ks (κ := T d) t).map (·.1)).length = t.es.length + 1 := by rw [List.length_map]; exact hkl
    rw [hN] at hU hck
    have hV : sat E w (nd p (.slice (some ⟨g, 0, none⟩) t.es.length c) (.slice (some ⟨gk, 0, none⟩) (t.es.length + 1) ck) * (ents (.slice (some ⟨g, 0, none⟩) t.es.length c) t.es * (kids (.slice (some ⟨gk, 0, none⟩) (t.es.length + 1) ck) (t.ks.map (·.1)) * (nodes d t.ks * A)))) := hU.to (by
      show kids _ (t.ks.map (·.1)) * (nodes d t.ks * _) = _
      ac_rfl)
    have hclose : ∀ W, sat E W (nd p (.slice (some ⟨g, 0, none⟩) t.es.length c) (.slice (some ⟨gk, 0, none⟩) (t.es.length + 1) ck) * (ents (.slice (some ⟨g, 0, none⟩) t.es.length c) t.es * (kids (.slice (some ⟨gk, 0, none⟩) (t.es.length + 1) ck) (t.ks.map (·.1)) * (nodes d t.ks * A)))) → sat E W (node (d + 1) p t * A) := fun W h =>
      sat_node.2 ⟨_, _, h.to (by rw [under_succ]; show _ * (_ * (kids _ (t.ks.map (·.1)) * (nodes d t.ks * A))) = _ * (_ * (kids _ (t.ks.map (·.1)) * nodes d t.ks * A)); rw [sep_assoc])⟩
    replace hclose := Lib.hid hclose
    replace hkl := Lib.hid hkl
    replace hN := Lib.hid hN
    replace hkk := Lib.hid hkk
    have hsz : Hid (t.es.length = t.es.length) := rfl
    obtain ⟨p0, p1, p2, p3, p4⟩ := nd_cells hV
    clear hs hU hok
    have h7' : ¬ ((7 : Int) < t.es.length) := by omega
    have h1' : ¬ ((t.es.length : Int) < 1) := by omega
    have hkl2 : Hid (t.ks.length = t.es.length + 1) := hkl
    generalize hm : t.es.length = m at *
    replace hm := Lib.hid hm
    have qe := fun (W : World) a n c => Lib.run_eql_slice_nil (P := Try.prog) W 62 55 a n c 0 0 Try.underlying62
    unfold ptr
    have h3' : Hid (top = false → ¬ ((m : Int) < 3)) := fun h => by have := h3 h; omega
    clear h3
    rcases top with _ | _
    all_goals
      first
        | have h3'' := h3'.out rfl
        | have h3'' : True := trivial
      clear h3'
      go_enter Try.func35, Try.ntmps35
      go_wp2_with fail
      clear p0 p1 p2 p3 p4
      refine wp_draw_lit [(0,3),(1,3),(2,3),(3,0),(4,3),(5,3),(6,3),(7,3),(8,0),(9,3),(10,3),(11,3)] (sat E · _) (by kernel_rfl) (by kernel_rfl) rfl hV.drew ?_
      clear hV
      iterate 3 (refine wpD_pure _ rfl rfl rfl ?_; apply Exists.intro; refine ⟨fun w' => ?_, ?_, ?_⟩; (go_wp2; exact ⟨rfl, rfl, rfl⟩); rfl)
      (refine wpD_reads _ rfl rfl rfl ?_; apply Exists.intro; refine ⟨fun w' hK => ?_, ?_, ?_⟩; (obtain ⟨p0, p1, p2, p3, p4⟩ := nd_cells hK; go_wp2; exact ⟨rfl, rfl, rfl⟩); rfl)
      iterate 4 (refine wpD_pure _ rfl rfl rfl ?_; apply Exists.intro; refine ⟨fun w' => ?_, ?_, ?_⟩; (go_wp2; exact ⟨rfl, rfl, rfl⟩); rfl)
      (refine wpD_reads _ rfl rfl rfl ?_; apply Exists.intro; refine ⟨fun w' hK => ?_, ?_, ?_⟩; (obtain ⟨p0, p1, p2, p3, p4⟩ := nd_cells hK; go_wp2; exact ⟨rfl, rfl, rfl⟩); rfl)
      iterate 3 (refine wpD_pure _ rfl rfl rfl ?_; apply Exists.intro; refine ⟨fun w' => ?_, ?_, ?_⟩; (go_wp2; exact ⟨rfl, rfl, rfl⟩); rfl)
      refine wpD_nil (fun w1 hV => ?_)
      obtain ⟨p0, p1, p2, p3, p4⟩ := nd_cells hV
      go_wp2_with fail
      clear p0 p1 p2 p3 p4
      go_loopw [6, 59] (fun hi i wr => ∃ k : Nat, k ≤ m + 1 ∧ i = .int .i64 k ∧ hi = .int .i64 (hiI d k) ∧ sat E wr (nd p (.slice (some ⟨g, 0, none⟩) m c) (.slice (some ⟨gk, 0, none⟩) (m + 1) ck) * (ents (.slice (some ⟨g, 0, none⟩) m c) t.es * (kids (.slice (some ⟨gk, 0, none⟩) (m + 1) ck) (t.ks.map (·.1)) * (nodes d t.ks * A))))) (fun hi i _ => m + 1 - (intOf i).toNat)
      case atStart => exact ⟨0, Nat.zero_le _, rfl, rfl, hV⟩
      case round =>
        clear hV
        obtain ⟨k, hk, rfl, rfl, hV⟩ := hrel
        by_cases hlt : k < m + 1
        · obtain ⟨ka, q, tk, kb, hks, hka⟩ := split_kid t.ks k (by have := hkl2.out; omega)
          have hkt := hkk.out (q, tk) (by show (q, tk) ∈ t.ks; rw [hks]; simp)
          have hps : t.ks.map (·.1) = ka.map (·.1) ++ q :: kb.map (·.1) := by rw [hks]; simp
          have kc := hV.p3
          rw [hps] at kc
          have kc2 := kid_at kc (i := k) (by rw [List.length_map]; exact hka)
          unfold ptr at kc2
          have hn : ∀ W, sat E W (nd p (.slice (some ⟨g, 0, none⟩) m c) (.slice (some ⟨gk, 0, none⟩) (m + 1) ck) * (ents (.slice (some ⟨g, 0, none⟩) m c) t.es * (kids (.slice (some ⟨gk, 0, none⟩) (m + 1) ck) (t.ks.map (·.1)) * (nodes d t.ks * A)))) ↔ sat E W (node d q tk * (nd p (.slice (some ⟨g, 0, none⟩) m c) (.slice (some ⟨gk, 0, none⟩) (m + 1) ck) * (ents (.slice (some ⟨g, 0, none⟩) m c) t.es * (kids (.slice (some ⟨gk, 0, none⟩) (m + 1) ck) (t.ks.map (·.1)) * (nodes d ka * (nodes d kb * A)))))) := fun W => by
            have e : nodes d t.ks = nodes d ka * (node d q tk * nodes d kb) := by rw [hks]; exact nodes_split
            rw [e]
            constructor <;> intro h <;> exact h.to (by ac_rfl)
          have hV2 := (hn _).1 hV
          replace hn := Lib.hid hn
          replace hks := Lib.hid hks
          replace hps := Lib.hid hps
          replace hka := Lib.hid hka
          clear kc hV
          go_wp2_with fail
          refine (ih E _ _ q tk false hV2 hkt.2.2 (by have := hkt.1; omega) hkt.2.1 (fun _ => hkt.1) (by omega)).mono ?_
          rintro e w3 ⟨_, rfl, rfl, hs3⟩
          have hV3 := (hn.out _).2 hs3
          clear hs3 hV2 hn kc2
          rcases k with _ | k
          · rw [show hiI d 0 = 0 from rfl]
            go_wp2
            go_roundw
            case rel => exact ⟨1, by omega, rfl, by unfold hiI; rw [if_neg (by decide)], hV3⟩
            case measure => simp [intOf]
          · rw [show hiI d (k + 1) = (d : Int) + 1 from by unfold hiI; rw [if_neg (by omega)]]
            go_wp2
            go_roundw
            case rel => exact ⟨k + 1 + 1, by omega, by go_num, by unfold hiI; rw [if_neg (by omega)], hV3⟩
            case measure => simp [intOf]; omega
        · have hkm : k = m + 1 := by omega
          rw [show hiI d k = (d : Int) + 1 from by unfold hiI; rw [if_neg (by omega)]]
          have hR' := hR1.out _ (hclose.out _ hV)
          rw [show ((d + 1 : Nat) : Int) = (d : Int) + 1 from rfl] at hR'
          clear hR1 hV hclose hkm
          go_wp2
          try go_ret2
          exact hR'

def predW (k : Nat) : Int := (k : Int) - 1
theorem predW_succ (k : Nat) : predW (k + 1) = (k : Int) := by unfold predW; omega

theorem sorted_kvs {l : List Ent} : sorted l ↔ rowed (kvs l) := by
  unfold rowed kvs
  rw [List.pairwise_map]
  exact Iff.rfl

set_option maxRecDepth 10000 in
set_option maxHeartbeats 2000000 in
/-- entries in their row -/
theorem sortedFn (E : Env) (w : World) (A : Asn) (v : Value) (l : List Ent) (hs : sat E w A) (h : Env.ents E v l) (hso : sorted l) :
    Calls Try.prog 36 #[v, .func (.func 37) #[] #[]] w (Ret fun r w' => r = .bool true ∧ sat E w' A) := by
  obtain ⟨hn, hg, a, b, o, cap, rfl, ha, hc⟩ := h
  replace hc := Lib.hid hc
  replace hg := Lib.hid hg
  replace hso := Lib.hid hso
  refine ret_hide fun R hR => ?_
  have hR1 := fun w' (h : sat E w' A) => hR.out _ w' ⟨rfl, h⟩
  replace hR1 := Lib.hid hR1
  clear hR
  rcases ha with ⟨rfl, hl⟩ | rfl
  all_goals
    go_enter Try.func36, Try.ntmps36
    go_wp2
    go_loopw [5] (fun i wr => ∃ k : Nat, k ≤ l.length ∧ i = .int .i64 (predW k) ∧ sat E wr A) (fun i _ => (intOf i + 1).toNat)
    case atStart => exact ⟨l.length, Nat.le_refl _, rfl, hs⟩
    case round =>
      clear hs
      obtain ⟨k, hk, rfl, hs⟩ := hrel
      rcases k with _ | _ | k
      · rw [show predW 0 = -1 from rfl]
        have hR' := hR1.out _ hs
        clear hR1
        go_wp2
        try go_ret
        exact hR'
      · rw [show predW (0 + 1) = 0 from rfl]
        have hR' := hR1.out _ hs
        clear hR1
        go_wp2
        try go_ret
        exact hR'
      · have hlt : k + 1 < l.length := by omega
        have hlt2 : k < l.length := by omega
        first
          | exact no_lt hl hlt
          | rw [predW_succ]
            have hlk := List.pairwise_iff_getElem.1 hso.out k (k + 1) hlt2 hlt (by omega)
            have hcmp : Hid (ecmp (l[k + 1].l, l[k + 1].id) (l[k].l, l[k].id) = 1) := by
              have h2 := Cmp.entry.anti l[k].kv l[k + 1].kv
              rw [hlk] at h2
              exact h2
            clear hlk
            have hcast : ((k + 1 : Nat) : Int) = (k : Int) + 1 := rfl
            rw [hcast]
            go_wp2
            refine wp_draw_lit [(0,3),(1,3),(2,3),(3,3),(4,0),(5,3),(6,3),(7,3),(8,3),(9,0),(10,2),(11,3)] (sat E · A) (by kernel_rfl) (by kernel_rfl) rfl hs.drew ?_
            iterate 4 (refine wpD_pure _ rfl rfl rfl ?_; apply Exists.intro; refine ⟨fun w' => ?_, ?_, ?_⟩; (go_wp2; exact ⟨rfl, rfl, rfl⟩); rfl)
            (refine wpD_reads _ rfl rfl rfl ?_; apply Exists.intro; refine ⟨fun w' hK => ?_, ?_, ?_⟩; (obtain ⟨g0, g1, g2⟩ := sat.ent2 hK (hc.out (k + 1) hlt); go_wp2; exact ⟨rfl, rfl, rfl⟩); rfl)
            iterate 4 (refine wpD_pure _ rfl rfl rfl ?_; apply Exists.intro; refine ⟨fun w' => ?_, ?_, ?_⟩; (go_wp2; exact ⟨rfl, rfl, rfl⟩); rfl)
            (refine wpD_reads _ rfl rfl rfl ?_; apply Exists.intro; refine ⟨fun w' hK => ?_, ?_, ?_⟩; (obtain ⟨g0, g1, g2⟩ := sat.ent2 hK (hc.out k hlt2); go_wp2; exact ⟨rfl, rfl, rfl⟩); rfl)
            refine wpD_does (by decide) rfl rfl (fun Nx hNx w' hK => ?_)
            go_wp2_with fail
            refine (entCompare E _ A _ _ _ _ _ _ hK (hg.out _ (List.getElem_mem hlt)) (hg.out _ (List.getElem_mem hlt2))).mono ?_
            rintro e w3 ⟨_, rfl, rfl, hs3⟩
            rw [hcmp.out]
            go_wp2_with fail
            refine ⟨rfl, (sat E · A), hs3, fun h => (by cases h), hNx _ _ ?_⟩
            clear hs3 hK hNx
            iterate 1 (refine wpD_pure _ rfl rfl rfl ?_; apply Exists.intro; refine ⟨fun w' => ?_, ?_, ?_⟩; (go_wp2; exact ⟨rfl, rfl, rfl⟩); rfl)
            refine wpD_nil (fun w5 hs5 => ?_)
            clear hs hcmp
            go_wp2
            go_roundw
            case rel => exact ⟨k + 1, by omega, by rw [predW_succ], hs5⟩
            case measure => simp [intOf]; omega

set_option maxRecDepth 10000 in
set_option maxHeartbeats 2000000 in
theorem wellE (E : Env) (w : World) (A : Asn) (r : Nat) (m : List KV) (hT : TreeE E w A r m) (hm : Small m) :
    Calls Try.prog 21 #[ptr r] w (Ret fun v w' => v = .bool true ∧ ∃ E', E.le E' ∧ TreeE E' w' A r m) := by
  refine ret_hide fun R hR => ?_
  have hR1 := fun E' w' (h : E.le E') (h2 : TreeE E' w' A r m) => hR.out _ w' ⟨rfl, E', h, h2⟩
  replace hR1 := Lib.hid hR1
  clear hR
  have hro := Lib.hid hT.rowed
  unfold ptr
  have hT0 := hT
  obtain ⟨h, l, hT, hkv⟩ := hT
  have hll : l.length = m.length := kvs_len hkv
  have hlow := tree_low hT.2.2
  have hml := hm.1
  rcases h with _ | d
  · obtain ⟨rfl, hs⟩ := sat_tree_zero.1 hT.2.2
    obtain ⟨r0, r1, r2, r3, r4⟩ := hd_cells hs
    have hR' := hR1.out _ _ (.refl E) hT0
    clear hR1 hT hT0 hs hll hlow
    rw [show ((0 : Nat) : Int) = 0 from rfl] at r2
    go_enter Try.func21, Try.ntmps21
    go_wp2
    try go_ret
    exact hR'
  · obtain ⟨p, t, hfl, hok, h1, h7, hs⟩ := sat_tree_succ.1 hT.2.2
    obtain ⟨r0, r1, r2, r3, r4⟩ := hd_cells hs
    unfold ptr at r1
    have hdm : d ≤ 1000000 := by omega
    have hg := hT.1
    have hso := hT.2.1
    replace hfl := Lib.hid hfl
    replace hkv := Lib.hid hkv
    replace hll := Lib.hid hll
    clear hT hT0
    go_enter Try.func21, Try.ntmps21
    go_wp2_with fail
    refine (wellNode d E _ _ p t true hs.p2 hok h1 h7 (fun h => by cases h) hdm).mono ?_
    rintro e w2 ⟨_, rfl, rfl, hs2⟩
    have hT2 : TreeE E w2 A r m := ⟨d + 1, l, ⟨hg, hso, sat_tree_succ.2 ⟨p, t, hfl.out, hok, h1, h7, hs2.p2⟩⟩, hkv.out⟩
    clear hs hs2 r0 r1 r2 r3 r4
    go_wp2_with fail
    refine (walkE E _ A r m _ _ _ [] hT2 (.inl ⟨rfl, rfl⟩) (vals_nil _) hm).mono ?_
    rintro e w3 ⟨v3, rfl, E3, es3, hE3, hT3, hi3, hk3⟩
    have hk3 := hk3.trans (piece_all m)
    have hes3 : sorted es3 := sorted_kvs.2 (hk3 ▸ hro.out)
    have hl3 : es3.length = m.length := kvs_len hk3
    have hi3' := hi3
    obtain ⟨_, _, a3, _, _, c3, rfl, _, _⟩ := hi3
    rw [hl3] at hi3'
    clear hT2
    obtain ⟨v4, B4, hs4, _⟩ : ∃ v B, sat E3 w3 (hd r v m.length * B) ∧ True := by
      obtain ⟨h, l', hT, hk⟩ := hT3
      obtain ⟨v, B, h2, _⟩ := tree_hd hT.2.2
      rw [kvs_len hk] at h2
      exact ⟨v, B, h2, trivial⟩
    obtain ⟨r0, r1, r2, r3, r4⟩ := hd_cells hs4
    obtain ⟨X, hsX, hX⟩ := hT3.frame
    have hl3' : (es3.length : Int) = (m.length : Int) := by omega
    rw [hl3]
    replace hl3 := Lib.hid hl3
    replace hk3 := Lib.hid hk3
    replace hl3' := Lib.hid hl3'
    clear hs4
    go_wp2_with fail
    refine (sortedFn E3 _ X _ es3 hsX (hi3') hes3).mono ?_
    rintro e w5 ⟨_, rfl, rfl, hs5⟩
    have hR' := hR1.out _ _ hE3 (hX _ _ (.refl E3) hs5)
    clear hR1 hsX hs5
    go_wp2
    try go_ret
    exact hR'
end Go.Proofs.Ytmibiaakppkmmaa
