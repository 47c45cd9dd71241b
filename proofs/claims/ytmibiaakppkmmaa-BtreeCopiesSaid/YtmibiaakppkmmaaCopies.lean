/- BtreeCopies: the walk. -/
import Derived.Test.YtmibiaakppkmmaaCopy
namespace Go.Proofs.Ytmibiaakppkmmaa
open Go.RowKit Go.Sep
set_option linter.unusedVariables false
set_option linter.unusedSimpArgs false

theorem rowed_ne {m : List KV} (h : rowed m) {i j : Nat} (hi : i < m.length) (hj : j < m.length) (hij : i < j) : m[i] ≠ m[j] := by
  intro e
  have h2 := List.pairwise_iff_getElem.1 h i j hi hj hij
  rw [e] at h2
  have h3 := (Cmp.entry.eq m[j] m[j]).2 rfl
  omega

theorem del_drop {m : List KV} (h : rowed m) {k : Nat} (hk : k < m.length) : del1 m[k] (m.drop k) = m.drop (k + 1) := by
  rw [List.drop_eq_getElem_cons hk]
  unfold del1
  rw [List.filter_cons_of_neg (by simp)]
  refine List.filter_eq_self.2 fun x hx => ?_
  obtain ⟨j, hj, rfl⟩ := List.mem_iff_getElem.1 hx
  rw [List.getElem_drop]
  have hj2 : k + 1 + j < m.length := by rw [List.length_drop] at hj; omega
  have := rowed_ne h hk hj2 (by omega)
  simpa using fun e => this e.symm

theorem in_drop {m : List KV} {k : Nat} (hk : k < m.length) : m[k] ∈ m.drop k := by
  rw [List.drop_eq_getElem_cons hk]
  exact List.mem_cons_self

set_option maxRecDepth 100000 in
set_option maxHeartbeats 4000000 in
theorem copies (E : Env) (w : World) (A : Asn) (v1 v2 : Value) (l1 l2 : List Stp) (hs : sat E w A) (h1 : Env.steps E v1 l1) (hb1 : fitsS l1) (h2 : Env.steps E v2 l2) (hb2 : fitsS l2) :
    Calls Try.prog 6 #[v1, v2] w (Ret fun v w' => v = .bool true ∧ sat E w' A) := by
  refine ret_hide fun R hR => ?_
  have hR1 := fun (w' : World) (h' : sat E w' A) => hR.out _ w' ⟨rfl, h'⟩
  replace hR1 := Lib.hid hR1
  clear hR
  have h1' := h1
  have h2' := h2
  obtain ⟨_, _, a1, _, _, cap1, rfl, _, _⟩ := h1
  obtain ⟨hln2, hlg2, a2, b2, o2, cap2, rfl, ha2, hc2⟩ := h2
  replace hc2 := Lib.hid hc2
  replace hlg2 := Lib.hid hlg2
  replace ha2 := Lib.hid ha2
  replace h1' := Lib.hid h1'
  replace h2' := Lib.hid h2'
  replace hb1 := Lib.hid hb1
  replace hb2 := Lib.hid hb2
  go_enter Try.func6, Try.ntmps6
  go_wp2_with fail
  refine (works E w A hs).mono ?_
  rintro e w1 ⟨_, rfl, rfl, hs1⟩
  clear hs
  go_wp2_with fail
  refine (large E _ _ _ l1 hs1 h1'.out hb1.out).mono ?_
  rintro e w2 ⟨_, rfl, b, rfl, hfew, hs2⟩
  clear hs1
  rcases b with _ | _
  rotate_left
  · clear hfew
    go_wp2_with fail
    refine (works E _ A hs2).mono ?_
    rintro e w9 ⟨_, rfl, rfl, hs9⟩
    have hR' := hR1.out _ hs9
    clear hR1
    go_wp2
    try go_ret
    exact hR'
  · have hf1 := Lib.hid (hfew rfl)
    clear hfew
    go_wp2_with fail
    refine (large E _ _ _ l2 hs2 h2'.out hb2.out).mono ?_
    rintro e w3 ⟨_, rfl, b, rfl, hfew, hs3⟩
    clear hs2
    rcases b with _ | _
    rotate_left
    · clear hfew
      go_wp2_with fail
      refine (works E _ A hs3).mono ?_
      rintro e w9 ⟨_, rfl, rfl, hs9⟩
      have hR' := hR1.out _ hs9
      clear hR1
      go_wp2
      try go_ret
      exact hR'
    · have hf2 := Lib.hid (hfew rfl)
      clear hfew
      have hfl2 := hf2.out.1
      go_wp2_with fail
      refine (manyE E _ A _ l1 hs3 h1'.out hf1.out).mono ?_
      rintro e w4 ⟨_, rfl, r, E4, rfl, hE4, hT4⟩
      have hm := small_putAll hf1.out
      have hro := Lib.hid hT4.rowed
      have hml : (putAll (l1.map Stp.kv)).length ≤ 800 := by
        have h3 := foldl_length (l1.map Stp.kv) []
        have h4 := hf1.out.1
        unfold putAll
        simp at h3
        omega
      have hmk : Hid (∀ x ∈ putAll (l1.map Stp.kv), x.1.length ≤ 30000) := fun x hx => by
        obtain ⟨s, hs, rfl⟩ := List.mem_map.1 (mem_putAll.1 hx)
        exact (hf1.out.2 s hs).1
      generalize putAll (l1.map Stp.kv) = m at *
      clear hs3
      unfold ptr
      go_wp2_with fail
      refine (walkE E4 _ A r m _ _ _ [] hT4 (.inl ⟨rfl, rfl⟩) (vals_nil _) hm).mono ?_
      rintro e w6 ⟨v6, rfl, E6, es6, hE6, hT6, hi6, hk6⟩
      replace hk6 := Lib.hid (hk6.trans (piece_all m))
      clear hT4
      have hi6' := Lib.hid hi6
      obtain ⟨hne6, hg6, a6, b6, o6, c6, rfl, ha6, hc6⟩ := hi6
      replace hc6 := Lib.hid hc6
      replace hg6 := Lib.hid hg6
      replace ha6 := Lib.hid ha6
      go_wp2_with fail
      refine (copyE E6 _ A r m hT6 hm).mono ?_
      rintro e w7 ⟨_, rfl, r2, E7, rfl, hE7, h2T⟩
      clear hT6
      replace hE6 := Lib.hid (hE4.trans hE6)
      have hE7' := Lib.hid (hE6.out.trans hE7)
      replace hE7 := Lib.hid hE7
      unfold ptr
      go_wp2
      go_loopw [8] (fun i wr => ∃ k : Nat, k ≤ l2.length ∧ i = .int .i64 k ∧ ∃ E8 m2, E.le E8 ∧ E6.le E8 ∧ Two E8 wr A r m r2 m2 ∧ m2.length ≤ 800 + k ∧ Hid (∀ x ∈ m2, x.1.length ≤ 30000)) (fun i _ => l2.length - (intOf i).toNat)
      case atStart => exact ⟨0, Nat.zero_le _, rfl, E7, m, hE7'.out, hE7.out, h2T, by omega, hmk⟩
      case round =>
        clear h2T
        obtain ⟨k, hk, rfl, E8, m2, hE8, hE68, h2T, hml2, hm2⟩ := hrel
        replace hE8 := Lib.hid hE8
        replace hE68 := Lib.hid hE68
        by_cases hlt : k < l2.length
        · have hsk := hlg2.out _ (List.getElem_mem hlt)
          have hf3 := (hf2.out.2 _ (List.getElem_mem hlt)).1
          have hv1 : E8.vals l2[k].k l2[k].l := hsk.1.le hE8.out
          obtain ⟨X, hT, hb⟩ := h2T.swap.first
          obtain ⟨Y, hsY, hY⟩ := hT.frame
          clear hT h2T
          rcases ha2.out with ⟨rfl, hl0⟩ | rfl
          · exact no_lt hl0 hlt
          · obtain ⟨g0, g1, g2, g3, g4⟩ := sat.stp (hsY.le hE8.out) (hc2.out k hlt)
            go_wp2
            · clear g0 g1 g2 g3 g4
              refine wp_draw_lit [(0,3),(1,3),(2,3),(3,3),(4,3),(5,0),(6,3),(7,3),(8,3),(9,3),(10,0),(11,2)] (sat E8 · Y) (by kernel_rfl) (by kernel_rfl) rfl hsY.drew ?_
              clear hsY
              iterate 5 (refine wpD_pure _ rfl rfl rfl ?_; apply Exists.intro; refine ⟨fun w' => ?_, ?_, ?_⟩; (go_wp2; exact ⟨rfl, rfl, rfl⟩); rfl)
              (refine wpD_reads _ rfl rfl rfl ?_; apply Exists.intro; refine ⟨fun w' hK => ?_, ?_, ?_⟩; (obtain ⟨g0, g1, g2, g3, g4⟩ := sat.stp (hK.le hE8.out) (hc2.out k hlt); go_wp2; exact ⟨rfl, rfl, rfl⟩); rfl)
              iterate 4 (refine wpD_pure _ rfl rfl rfl ?_; apply Exists.intro; refine ⟨fun w' => ?_, ?_, ?_⟩; (go_wp2; exact ⟨rfl, rfl, rfl⟩); rfl)
              (refine wpD_reads _ rfl rfl rfl ?_; apply Exists.intro; refine ⟨fun w' hK => ?_, ?_, ?_⟩; (obtain ⟨g0, g1, g2, g3, g4⟩ := sat.stp (hK.le hE8.out) (hc2.out k hlt); go_wp2; exact ⟨rfl, rfl, rfl⟩); rfl)
              refine wpD_does (by decide) rfl rfl (fun Nx hNx w' hK => ?_)
              go_wp2_with fail
              refine (putE E8 _ X r2 m2 _ _ _ (hY E8 _ (.refl E8) hK) hv1 (by omega) (by omega)).mono ?_
              rintro e wd ⟨_, rfl, rfl, E9, hE9, hTd⟩
              generalize decide ((l2[k].l, l2[k].id) ∉ m2) = bb
              go_wp2_with fail
              refine ⟨rfl, (fun x => TreeE E9 x X r2 (put1 (l2[k].l, l2[k].id) m2)), hTd, fun h => (by cases h), hNx _ _ ?_⟩
              clear hTd hK hNx hY
              refine wpD_nil (fun w5 hTn => ?_)
              have hm3 : Hid (∀ x ∈ put1 (l2[k].l, l2[k].id) m2, x.1.length ≤ 30000) := fun x hx => by
                rcases put1_mem hx with rfl | hx
                · exact hf3
                · exact hm2.out x hx
              have hl3 := put1_length (l2[k].l, l2[k].id) m2
              generalize put1 (l2[k].l, l2[k].id) m2 = m3 at *
              have h2T3 := (hb E9 w5 m3 hE9 hTn).swap
              have hE69 := Lib.hid (hE68.out.trans hE9)
              replace hE9 := Lib.hid (hE8.out.trans hE9)
              clear hTn hb
              go_wp2
              go_roundw
              case rel => exact ⟨k + 1, by omega, by go_num, _, m3, hE9.out, hE69.out, h2T3, by omega, hm3⟩
              case measure => simp [intOf]; omega
            · clear g0 g1 g2 g3 g4
              refine wp_draw_lit [(0,3),(1,3),(2,3),(3,3),(4,3),(5,0),(6,3),(7,3),(8,3),(9,3),(10,0),(11,2)] (sat E8 · Y) (by kernel_rfl) (by kernel_rfl) rfl hsY.drew ?_
              clear hsY
              iterate 5 (refine wpD_pure _ rfl rfl rfl ?_; apply Exists.intro; refine ⟨fun w' => ?_, ?_, ?_⟩; (go_wp2; exact ⟨rfl, rfl, rfl⟩); rfl)
              (refine wpD_reads _ rfl rfl rfl ?_; apply Exists.intro; refine ⟨fun w' hK => ?_, ?_, ?_⟩; (obtain ⟨g0, g1, g2, g3, g4⟩ := sat.stp (hK.le hE8.out) (hc2.out k hlt); go_wp2; exact ⟨rfl, rfl, rfl⟩); rfl)
              iterate 4 (refine wpD_pure _ rfl rfl rfl ?_; apply Exists.intro; refine ⟨fun w' => ?_, ?_, ?_⟩; (go_wp2; exact ⟨rfl, rfl, rfl⟩); rfl)
              (refine wpD_reads _ rfl rfl rfl ?_; apply Exists.intro; refine ⟨fun w' hK => ?_, ?_, ?_⟩; (obtain ⟨g0, g1, g2, g3, g4⟩ := sat.stp (hK.le hE8.out) (hc2.out k hlt); go_wp2; exact ⟨rfl, rfl, rfl⟩); rfl)
              refine wpD_does (by decide) rfl rfl (fun Nx hNx w' hK => ?_)
              go_wp2_with fail
              refine (delE E8 _ X r2 m2 _ _ _ (hY E8 _ (.refl E8) hK) hv1 (by omega)).mono ?_
              rintro e wd ⟨_, rfl, rfl, hTd⟩
              generalize decide ((l2[k].l, l2[k].id) ∈ m2) = bb
              go_wp2_with fail
              refine ⟨rfl, (fun x => TreeE E8 x X r2 (del1 (l2[k].l, l2[k].id) m2)), hTd, fun h => (by cases h), hNx _ _ ?_⟩
              clear hTd hK hNx hY
              refine wpD_nil (fun w5 hTn => ?_)
              have hm3 : Hid (∀ x ∈ del1 (l2[k].l, l2[k].id) m2, x.1.length ≤ 30000) := fun x hx => hm2.out x (by unfold del1 at hx; exact (List.mem_filter.1 hx).1)
              have hl3 : (del1 (l2[k].l, l2[k].id) m2).length ≤ m2.length := List.length_filter_le _ _
              generalize del1 (l2[k].l, l2[k].id) m2 = m3 at *
              have h2T3 := (hb E8 w5 m3 (.refl E8) hTn).swap
              have hE9 := hE8
              have hE69 := hE68
              clear hTn hb
              go_wp2
              go_roundw
              case rel => exact ⟨k + 1, by omega, by go_num, _, m3, hE9.out, hE69.out, h2T3, by omega, hm3⟩
              case measure => simp [intOf]; omega
        · have hsm2 : Small m2 := ⟨by omega, fun x hx => by have := hm2.out x hx; omega⟩
          obtain ⟨X, hT, hb⟩ := h2T.swap.first
          clear h2T
          go_wp2_with fail
          refine (walkE E8 _ X r2 m2 _ _ _ [] hT (.inl ⟨rfl, rfl⟩) (vals_nil _) hsm2).mono ?_
          rintro e w10 ⟨v9, rfl, E9, es9, hE9, hT9, hi9, hk9⟩
          replace hk9 := Lib.hid (hk9.trans (piece_all m2))
          have h2T9 := (hb E9 w10 m2 hE9 hT9).swap
          clear hT hT9 hb
          replace hE8 := Lib.hid (hE8.out.trans hE9)
          replace hE68 := Lib.hid (hE68.out.trans hE9)
          replace hi9 := Lib.hid hi9
          obtain ⟨X2, hT, hb⟩ := h2T9.first
          go_wp2_with fail
          refine (walkE E9 _ X2 r m _ _ _ [] hT (.inl ⟨rfl, rfl⟩) (vals_nil _) hm).mono ?_
          rintro e w11 ⟨v10, rfl, E10, es10, hE10, hT10, hi10, hk10⟩
          replace hk10 := Lib.hid (hk10.trans (piece_all m))
          clear hT
          replace hi9 := Lib.hid (hi9.out.le hE10)
          replace hE8 := Lib.hid (hE8.out.trans hE10)
          replace hE68 := Lib.hid (hE68.out.trans hE10)
          go_wp2_with fail
          refine (sameEntsE E10 _ X2 r m _ _ _ _ hT10 hi10 (hi6'.out.le hE68.out)).mono ?_
          rintro e w12 ⟨_, rfl, rfl, hT12⟩
          rw [show decide (kvs es10 = kvs es6) = true by rw [hk10.out, hk6.out]; simp]
          clear hT10
          go_wp2_with fail
          refine (wellE E10 _ X2 r m hT12 hm).mono ?_
          rintro e w13 ⟨_, rfl, rfl, E11, hE11, hT13⟩
          have h2T13 := (hb E11 w13 m (hE10.trans hE11) hT13).swap
          clear hT12 hT13 hb h2T9
          replace hi9 := Lib.hid (hi9.out.le hE11)
          replace hE8 := Lib.hid (hE8.out.trans hE11)
          replace hE68 := Lib.hid (hE68.out.trans hE11)
          obtain ⟨X3, hT, hb⟩ := h2T13.first
          go_wp2_with fail
          refine (wellE E11 _ X3 r2 m2 hT hsm2).mono ?_
          rintro e w14 ⟨_, rfl, rfl, E12, hE12, hT14⟩
          have h2T14 := (hb E12 w14 m2 hE12 hT14).swap
          clear hT hT14 hb h2T13
          replace hi9 := Lib.hid (hi9.out.le hE12)
          replace hE8 := Lib.hid (hE8.out.trans hE12)
          replace hE9 := Lib.hid (hE68.out.trans hE12)
          have hlen6 : Hid (es6.length = m.length) := kvs_len hk6.out
          replace hml := Lib.hid hml
          replace hm := Lib.hid hm
          go_wp2
          go_loopw [10] (fun i wr => ∃ k : Nat, k ≤ es6.length ∧ i = .int .i64 k ∧ Two E12 wr A r (m.drop k) r2 m2) (fun i _ => es6.length - (intOf i).toNat)
          case atStart => exact ⟨0, Nat.zero_le _, rfl, h2T14⟩
          case round =>
            clear h2T14
            obtain ⟨k3, hk3, rfl, h2T⟩ := hrel
            by_cases hlt3 : k3 < es6.length
            · have hv1 : E12.vals es6[k3].k es6[k3].l := (hg6.out _ (List.getElem_mem hlt3)).le hE9.out
              have hmk3 : k3 < m.length := by have := hlen6.out; omega
              have hkv : Hid ((es6[k3].l, es6[k3].id) = m[k3]) := by
                show _ = _
                have : (kvs es6)[k3]'(by simpa [kvs] using hlt3) = m[k3] := by simp [hk6.out]
                rw [← this]
                simp [kvs, Ent.kv]
              have hdl : (m.drop k3).length ≤ 100000 := by have := hml.out; rw [List.length_drop]; omega
              obtain ⟨X, hT, hb⟩ := h2T.first
              obtain ⟨Y, hsY, hY⟩ := hT.frame
              clear hT h2T
              replace hmk3 := Lib.hid hmk3
              rcases ha6.out with ⟨rfl, hl0⟩ | rfl
              · exact no_lt hl0 hlt3
              · go_wp2
                refine wp_draw_lit [(0,3),(1,3),(2,3),(3,3),(4,3),(5,0),(6,3),(7,3),(8,3),(9,3),(10,0),(11,2),(12,3)] (sat E12 · Y) (by kernel_rfl) (by kernel_rfl) rfl hsY.drew ?_
                clear hsY
                iterate 5 (refine wpD_pure _ rfl rfl rfl ?_; apply Exists.intro; refine ⟨fun w' => ?_, ?_, ?_⟩; (go_wp2; exact ⟨rfl, rfl, rfl⟩); rfl)
                (refine wpD_reads _ rfl rfl rfl ?_; apply Exists.intro; refine ⟨fun w' hK => ?_, ?_, ?_⟩; (obtain ⟨g0, g1, g2⟩ := sat.ent2 (hK.le hE9.out) (hc6.out k3 hlt3); go_wp2; exact ⟨rfl, rfl, rfl⟩); rfl)
                iterate 4 (refine wpD_pure _ rfl rfl rfl ?_; apply Exists.intro; refine ⟨fun w' => ?_, ?_, ?_⟩; (go_wp2; exact ⟨rfl, rfl, rfl⟩); rfl)
                (refine wpD_reads _ rfl rfl rfl ?_; apply Exists.intro; refine ⟨fun w' hK => ?_, ?_, ?_⟩; (obtain ⟨g0, g1, g2⟩ := sat.ent2 (hK.le hE9.out) (hc6.out k3 hlt3); go_wp2; exact ⟨rfl, rfl, rfl⟩); rfl)
                refine wpD_does (by decide) rfl rfl (fun Nx hNx w' hK => ?_)
                go_wp2_with fail
                refine (delE E12 _ X r (m.drop k3) _ _ _ (hY E12 _ (.refl E12) hK) hv1 hdl).mono ?_
                rintro e wd ⟨_, rfl, rfl, hTd⟩
                rw [hkv.out, decide_eq_true (in_drop hmk3.out)]
                rw [hkv.out, del_drop hro.out hmk3.out] at hTd
                go_wp2_with fail
                refine ⟨rfl, (fun x => TreeE E12 x X r (m.drop (k3 + 1))), hTd, fun h => (by cases h), hNx _ _ ?_⟩
                clear hTd hK hNx hY hkv
                iterate 1 (refine wpD_pure _ rfl rfl rfl ?_; apply Exists.intro; refine ⟨fun w' => ?_, ?_, ?_⟩; (go_wp2; exact ⟨rfl, rfl, rfl⟩); rfl)
                refine wpD_nil (fun w5 hTn => ?_)
                have h2T3 := hb E12 w5 _ (.refl E12) hTn
                clear hTn hb
                go_wp2
                go_roundw
                case rel => exact ⟨k3 + 1, by omega, by go_num, h2T3⟩
                case measure => simp [intOf]; omega
            · have hnil : m.drop k3 = [] := List.drop_of_length_le (by have := hlen6.out; omega)
              rw [hnil] at h2T
              clear hnil
              obtain ⟨X, hT, hb⟩ := h2T.first
              go_wp2_with fail
              refine (lenE E12 _ X r [] hT).mono ?_
              rintro e w20 ⟨_, rfl, rfl, rfl⟩
              simp only [List.length_nil]
              clear hT hb
              obtain ⟨X4, hT, hb⟩ := h2T.swap.first
              go_wp2_with fail
              refine (walkE E12 _ X4 r2 m2 _ _ _ [] hT (.inl ⟨rfl, rfl⟩) (vals_nil _) hsm2).mono ?_
              rintro e w21 ⟨v21, rfl, E21, es21, hE21, hT21, hi21, hk21⟩
              replace hk21 := Lib.hid (hk21.trans (piece_all m2))
              clear hT
              go_wp2_with fail
              refine (sameEntsE E21 _ X4 r2 m2 _ _ _ _ hT21 hi21 (hi9.out.le hE21)).mono ?_
              rintro e w22 ⟨_, rfl, rfl, hT22⟩
              rw [show decide (kvs es21 = kvs es9) = true by rw [hk21.out, hk9.out]; simp]
              have hR' := hR1.out _ ((hb E21 w22 m2 hE21 hT22).sat.le (hE8.out.trans hE21))
              clear hR1 hT21 hT22 hb h2T
              go_wp2
              try go_ret
              exact hR'
end Go.Proofs.Ytmibiaakppkmmaa
