/- BtreeWell: the walk. -/
import Derived.Test.YtmibiaakppkmmaaWell
import Derived.Test.YtmibiaakppkmmaaRefs
namespace Go.Proofs.Ytmibiaakppkmmaa
open Go.RowKit Go.Sep
set_option linter.unusedVariables false
set_option linter.unusedSimpArgs false

theorem del1_len (x : KV) (m : List KV) : (del1 x m).length ≤ m.length := List.length_filter_le _ _
theorem in_del1 {x y : KV} {m : List KV} : y ∈ del1 x m ↔ y ∈ m ∧ y ≠ x := by unfold del1; simp

/-- what comes one behind the other, by its key or by its number -/
theorem key_or_id {a b : Ent} (h : ecmp a.kv b.kv = -1) : kcmp a.l b.l = -1 ∨ kcmp a.l b.l = 0 ∧ a.id < b.id := by
  unfold ecmp orI at h
  split at h
  · rename_i h0
    refine .inr ⟨h0, ?_⟩
    unfold cmpI at h
    split at h
    · assumption
    · split at h <;> omega
  · exact .inl h

set_option maxRecDepth 100000 in
set_option maxHeartbeats 4000000 in
theorem wellLaw (E : Env) (w : World) (A : Asn) (v1 : Value) (l : List Stp) (hs : sat E w A) (h1 : Env.steps E v1 l) (hb : fitsS l) :
    Calls Try.prog 5 #[v1] w (Ret fun v w' => v = .bool true ∧ sat E w' A) := by
  refine ret_hide fun R hR => ?_
  have hR1 := fun (w' : World) (h' : sat E w' A) => hR.out _ w' ⟨rfl, h'⟩
  replace hR1 := Lib.hid hR1
  clear hR
  have h1' := h1
  obtain ⟨hln, hlg, a1, b1, o1, cap1, rfl, ha1, hc⟩ := h1
  replace hc := Lib.hid hc
  replace hlg := Lib.hid hlg
  have hbf := Lib.hid hb
  go_enter Try.func5, Try.ntmps5
  go_wp2_with fail
  refine (works E w A hs).mono ?_
  rintro e w1 ⟨_, rfl, rfl, hs1⟩
  clear hs
  go_wp2_with fail
  refine (large E _ _ _ l hs1 h1' hb).mono ?_
  rintro e w2 ⟨_, rfl, b, rfl, hfew, hs2⟩
  clear hs1 hb
  rcases b with _ | _
  rotate_left
  · clear hfew
    go_wp2_with fail
    refine (works E _ A hs2).mono ?_
    rintro e w3 ⟨_, rfl, rfl, hs3⟩
    have hR' := hR1.out _ hs3
    clear hR1
    go_wp2
    try go_ret
    exact hR'
  · have hf2 := Lib.hid (hfew rfl)
    clear hfew
    have hfl := hf2.out.1
    go_wp2_with fail
    refine (newE E _ A hs2).mono ?_
    rintro e w3 ⟨_, rfl, r, rfl, hT⟩
    unfold ptr
    clear hs2
    rcases ha1 with ⟨rfl, hl1⟩ | rfl
    all_goals
      go_wp2
      go_loopw [4] (fun i wr => ∃ k : Nat, k ≤ l.length ∧ i = .int .i64 k ∧ ∃ E' m, E.le E' ∧ TreeE E' wr A r m ∧ m.length ≤ k ∧ Hid (∀ x ∈ m, x.1.length ≤ 30000 ∧ fits x.1)) (fun i _ => l.length - (intOf i).toNat)
      case atStart => exact ⟨0, Nat.zero_le _, rfl, E, [], .refl E, hT, Nat.le_refl _, fun x hx => by cases hx⟩
      case round =>
        clear hT
        obtain ⟨k, hk, rfl, E', m, hE, hT, hmk, hm⟩ := hrel
        replace hE := Lib.hid hE
        by_cases hlt : k < l.length
        · first
            | exact no_lt hl1 hlt
            | have hsk := hlg.out _ (List.getElem_mem hlt)
              have hf3 := (hf2.out.2 _ (List.getElem_mem hlt)).1
              have hf4 := (hbf.out _ (List.getElem_mem hlt)).1
              have hv1 : E'.vals l[k].k l[k].l := hsk.1.le hE.out
              obtain ⟨X, hsX, hX⟩ := hT.frame
              clear hT
              obtain ⟨g0, g1, g2, g3, g4⟩ := sat.stp (hsX.le hE.out) (hc.out k hlt)
              go_wp2
              · clear g0 g1 g2 g3 g4
                refine wp_draw_lit [(0,3),(1,3),(2,3),(3,3),(4,3),(5,0),(6,3),(7,3),(8,3),(9,3),(10,0),(11,2)] (sat E' · X) (by kernel_rfl) (by kernel_rfl) rfl hsX.drew ?_
                clear hsX
                iterate 5 (refine wpD_pure _ rfl rfl rfl ?_; apply Exists.intro; refine ⟨fun w' => ?_, ?_, ?_⟩; (go_wp2; exact ⟨rfl, rfl, rfl⟩); rfl)
                (refine wpD_reads _ rfl rfl rfl ?_; apply Exists.intro; refine ⟨fun w' hK => ?_, ?_, ?_⟩; (obtain ⟨g0, g1, g2, g3, g4⟩ := sat.stp (hK.le hE.out) (hc.out k hlt); go_wp2; exact ⟨rfl, rfl, rfl⟩); rfl)
                iterate 4 (refine wpD_pure _ rfl rfl rfl ?_; apply Exists.intro; refine ⟨fun w' => ?_, ?_, ?_⟩; (go_wp2; exact ⟨rfl, rfl, rfl⟩); rfl)
                (refine wpD_reads _ rfl rfl rfl ?_; apply Exists.intro; refine ⟨fun w' hK => ?_, ?_, ?_⟩; (obtain ⟨g0, g1, g2, g3, g4⟩ := sat.stp (hK.le hE.out) (hc.out k hlt); go_wp2; exact ⟨rfl, rfl, rfl⟩); rfl)
                refine wpD_does (by decide) rfl rfl (fun Nx hNx w' hK => ?_)
                go_wp2_with fail
                refine (putE E' _ A r m _ _ _ (hX E' _ (.refl E') hK) hv1 (by omega) (by omega)).mono ?_
                rintro e wd ⟨_, rfl, rfl, E2, hE2, hTd⟩
                generalize decide ((l[k].l, l[k].id) ∉ m) = bb
                go_wp2_with fail
                refine ⟨rfl, (fun x => TreeE E2 x A r (put1 (l[k].l, l[k].id) m)), hTd, fun h => (by cases h), hNx _ _ ?_⟩
                clear hTd hK hNx hX
                refine wpD_nil (fun w5 hTn => ?_)
                have hm2 : Hid (∀ x ∈ put1 (l[k].l, l[k].id) m, x.1.length ≤ 30000 ∧ fits x.1) := fun x hx => by
                  rcases put1_mem hx with rfl | hx
                  · exact ⟨hf3, hf4⟩
                  · exact hm.out x hx
                have hl2 := put1_length (l[k].l, l[k].id) m
                generalize put1 (l[k].l, l[k].id) m = m2 at *
                replace hE2 := Lib.hid hE2
                have hl3 : m2.length ≤ 800 := by omega
                have hsm : Small m2 := ⟨by omega, fun x hx => by have := hm2.out x hx; omega⟩
                go_wp2_with fail
                refine (wellE E2 _ A r m2 hTn hsm).mono ?_
                rintro e w6 ⟨_, rfl, rfl, E3, hE3, hT3⟩
                clear hTn hsm
                go_wp2_with fail
                refine (lenE E3 _ A r m2 hT3).mono ?_
                rintro e w7 ⟨_, rfl, rfl, rfl⟩
                go_wp2_with fail
                refine (heightE E3 _ A r m2 hT3 (by omega)).mono ?_
                rintro e w8 ⟨_, rfl, ⟨h, rfl, hh⟩, rfl⟩
                replace hh := Lib.hid hh
                go_wp2_with fail
                refine (refHeight _ m2.length h (by omega) hh.out).mono ?_
                rintro e w9 ⟨rfl, rfl⟩
                go_wp2
                go_roundw
                case rel => exact ⟨k + 1, by omega, by go_num, E3, m2, (hE.out.trans hE2.out).trans hE3, hT3, by omega, hm2⟩
                case measure => simp [intOf]; omega
              · clear g0 g1 g2 g3 g4
                refine wp_draw_lit [(0,3),(1,3),(2,3),(3,3),(4,3),(5,0),(6,3),(7,3),(8,3),(9,3),(10,0),(11,2)] (sat E' · X) (by kernel_rfl) (by kernel_rfl) rfl hsX.drew ?_
                clear hsX
                iterate 5 (refine wpD_pure _ rfl rfl rfl ?_; apply Exists.intro; refine ⟨fun w' => ?_, ?_, ?_⟩; (go_wp2; exact ⟨rfl, rfl, rfl⟩); rfl)
                (refine wpD_reads _ rfl rfl rfl ?_; apply Exists.intro; refine ⟨fun w' hK => ?_, ?_, ?_⟩; (obtain ⟨g0, g1, g2, g3, g4⟩ := sat.stp (hK.le hE.out) (hc.out k hlt); go_wp2; exact ⟨rfl, rfl, rfl⟩); rfl)
                iterate 4 (refine wpD_pure _ rfl rfl rfl ?_; apply Exists.intro; refine ⟨fun w' => ?_, ?_, ?_⟩; (go_wp2; exact ⟨rfl, rfl, rfl⟩); rfl)
                (refine wpD_reads _ rfl rfl rfl ?_; apply Exists.intro; refine ⟨fun w' hK => ?_, ?_, ?_⟩; (obtain ⟨g0, g1, g2, g3, g4⟩ := sat.stp (hK.le hE.out) (hc.out k hlt); go_wp2; exact ⟨rfl, rfl, rfl⟩); rfl)
                refine wpD_does (by decide) rfl rfl (fun Nx hNx w' hK => ?_)
                go_wp2_with fail
                refine (delE E' _ A r m _ _ _ (hX E' _ (.refl E') hK) hv1 (by omega)).mono ?_
                rintro e wd ⟨_, rfl, rfl, hTd⟩
                generalize decide ((l[k].l, l[k].id) ∈ m) = bb
                go_wp2_with fail
                refine ⟨rfl, (fun x => TreeE E' x A r (del1 (l[k].l, l[k].id) m)), hTd, fun h => (by cases h), hNx _ _ ?_⟩
                clear hTd hK hNx hX
                refine wpD_nil (fun w5 hTn => ?_)
                have hm2 : Hid (∀ x ∈ del1 (l[k].l, l[k].id) m, x.1.length ≤ 30000 ∧ fits x.1) := fun x hx => hm.out x (in_del1.1 hx).1
                have hl2 := del1_len (l[k].l, l[k].id) m
                generalize del1 (l[k].l, l[k].id) m = m2 at *
                obtain ⟨E2, hE2e⟩ : ∃ E2, E2 = E' := ⟨_, rfl⟩
                rw [← hE2e] at hTn
                have hE2 : Hid (E'.le E2) := Lib.hid (by rw [hE2e]; exact .refl _)
                clear hE2e
                have hl3 : m2.length ≤ 800 := by omega
                have hsm : Small m2 := ⟨by omega, fun x hx => by have := hm2.out x hx; omega⟩
                go_wp2_with fail
                refine (wellE E2 _ A r m2 hTn hsm).mono ?_
                rintro e w6 ⟨_, rfl, rfl, E3, hE3, hT3⟩
                clear hTn hsm
                go_wp2_with fail
                refine (lenE E3 _ A r m2 hT3).mono ?_
                rintro e w7 ⟨_, rfl, rfl, rfl⟩
                go_wp2_with fail
                refine (heightE E3 _ A r m2 hT3 (by omega)).mono ?_
                rintro e w8 ⟨_, rfl, ⟨h, rfl, hh⟩, rfl⟩
                replace hh := Lib.hid hh
                go_wp2_with fail
                refine (refHeight _ m2.length h (by omega) hh.out).mono ?_
                rintro e w9 ⟨rfl, rfl⟩
                go_wp2
                go_roundw
                case rel => exact ⟨k + 1, by omega, by go_num, E3, m2, (hE.out.trans hE2.out).trans hE3, hT3, by omega, hm2⟩
                case measure => simp [intOf]; omega
        · have hsm : Small m := ⟨by omega, fun x hx => by have := hm.out x hx; omega⟩
          have hro := Lib.hid hT.rowed
          go_wp2_with fail
          refine (walkE E' _ A r m _ _ _ [] hT (.inl ⟨rfl, rfl⟩) (vals_nil _) hsm).mono ?_
          rintro e w4 ⟨v4, rfl, E3, es, hE3, hT3, hi3, hk3⟩
          have hk3 := hk3.trans (piece_all m)
          have hes3 : Hid (sorted es) := sorted_kvs.2 (hk3 ▸ hro.out)
          have hl3 : Hid (es.length = m.length) := kvs_len hk3
          have hfe : Hid (∀ e ∈ es, fits e.l) := fun e he => (hm.out e.kv (by rw [← hk3]; exact List.mem_map_of_mem he)).2
          obtain ⟨hne, hg3, a3, b3, o3, c3, rfl, ha3, hc3⟩ := hi3
          replace hc3 := Lib.hid hc3
          replace hg3 := Lib.hid hg3
          replace hk3 := Lib.hid hk3
          clear hT hsm hro
          obtain ⟨X, hsX, hX⟩ := hT3.frame
          clear hT3
          rcases ha3 with ⟨rfl, hl0⟩ | rfl
          all_goals
            go_wp2
            go_loopw [6, 7] (fun i c wr => ∃ k : Nat, k ≤ es.length ∧ i = .int .i64 ((k : Int) + 1) ∧ sat E3 wr X) (fun i _ _ => es.length - (intOf i).toNat)
            case atStart => exact ⟨0, Nat.zero_le _, rfl, hsX⟩
            case round =>
              clear hsX
              obtain ⟨k3, hk4, rfl, hs⟩ := hrel
              by_cases hlt3 : k3 + 1 < es.length
              · first
                  | exact no_lt hl0 hlt3
                  | have hlt2 : k3 < es.length := by omega
                    have hlt4 : (k3 : Int) + 1 < es.length := by omega
                    have hlk := key_or_id (List.pairwise_iff_getElem.1 hes3.out k3 (k3 + 1) hlt2 hlt3 (by omega))
                    have ff2 := hfe.out _ (List.getElem_mem hlt2)
                    have ff3 := hfe.out _ (List.getElem_mem hlt3)
                    go_wp2
                    refine wp_draw_lit [(0,3),(1,3),(2,3),(3,3),(4,3),(5,0),(6,3),(7,3),(8,3),(9,3),(10,0),(11,2),(12,3)] (sat E3 · X) (by kernel_rfl) (by kernel_rfl) rfl hs.drew ?_
                    clear hs
                    iterate 5 (refine wpD_pure _ rfl rfl rfl ?_; apply Exists.intro; refine ⟨fun w' => ?_, ?_, ?_⟩; (go_wp2; exact ⟨rfl, rfl, rfl⟩); rfl)
                    (refine wpD_reads _ rfl rfl rfl ?_; apply Exists.intro; refine ⟨fun w' hK => ?_, ?_, ?_⟩; (obtain ⟨g0, g1, g2⟩ := sat.ent2 hK (hc3.out k3 hlt2); go_wp2; exact ⟨rfl, rfl, rfl⟩); rfl)
                    iterate 4 (refine wpD_pure _ rfl rfl rfl ?_; apply Exists.intro; refine ⟨fun w' => ?_, ?_, ?_⟩; (go_wp2; exact ⟨rfl, rfl, rfl⟩); rfl)
                    (refine wpD_reads _ rfl rfl rfl ?_; apply Exists.intro; refine ⟨fun w' hK => ?_, ?_, ?_⟩; (obtain ⟨g0, g1, g2⟩ := sat.ent2 hK (hc3.out (k3 + 1) hlt3); go_wp2; exact ⟨rfl, rfl, rfl⟩); rfl)
                    refine wpD_does (by decide) rfl rfl (fun Nx hNx w' hK => ?_)
                    go_wp2_with fail
                    refine (refCompare E3 _ X _ _ _ _ hK (hg3.out _ (List.getElem_mem hlt2)) (hg3.out _ (List.getElem_mem hlt3)) ff2 ff3).mono ?_
                    rintro e w5 ⟨_, rfl, rfl, hs5⟩
                    go_wp2_with fail
                    refine ⟨rfl, (sat E3 · X), hs5, fun h => (by cases h), hNx _ _ ?_⟩
                    clear hs5 hK hNx
                    refine wpD_move rfl rfl (.inr rfl) ?_
                    refine wpD_nil (fun w6 hs6 => ?_)
                    rcases hlk with hlk | ⟨hlk, hid⟩
                    · rw [hlk]
                      replace hlk := Lib.hid hlk
                      go_wp2
                      refine wp_draw_lit [(0,3),(1,3),(2,3),(3,3),(4,3),(5,3),(6,3),(7,3),(8,3),(9,3),(10,3),(11,0),(12,3),(13,3),(14,3),(15,3),(16,0),(17,3),(18,3),(19,3)] (sat E3 · X) (by kernel_rfl) (by kernel_rfl) rfl hs6.drew ?_
                      clear hs6
                      iterate 6 (refine wpD_pure _ rfl rfl rfl ?_; apply Exists.intro; refine ⟨fun w' => ?_, ?_, ?_⟩; (go_wp2; exact ⟨rfl, rfl, rfl⟩); rfl)
                      iterate 12 (refine wpD_pass rfl (by kernel_rfl) ?_; apply Exists.intro; refine ⟨fun w' => ?_, ?_, ?_⟩; (go_wp2; exact ⟨rfl, rfl, rfl⟩); rfl)
                      iterate 2 (refine wpD_pure _ rfl rfl rfl ?_; apply Exists.intro; refine ⟨fun w' => ?_, ?_, ?_⟩; (go_wp2; exact ⟨rfl, rfl, rfl⟩); rfl)
                      refine wpD_nil (fun w7 hs7 => ?_)
                      go_wp2
                      go_roundw
                      case rel => exact ⟨k3 + 1, by omega, by go_num, hs7⟩
                      case measure => simp [intOf]; omega
                    · rw [hlk]
                      replace hlk := Lib.hid hlk
                      go_wp2
                      refine wp_draw_lit [(0,3),(1,3),(2,3),(3,3),(4,3),(5,3),(6,3),(7,3),(8,3),(9,3),(10,3),(11,0),(12,3),(13,3),(14,3),(15,3),(16,0),(17,3),(18,3),(19,3)] (sat E3 · X) (by kernel_rfl) (by kernel_rfl) rfl hs6.drew ?_
                      clear hs6
                      iterate 11 (refine wpD_pure _ rfl rfl rfl ?_; apply Exists.intro; refine ⟨fun w' => ?_, ?_, ?_⟩; (go_wp2; exact ⟨rfl, rfl, rfl⟩); rfl)
                      (refine wpD_reads _ rfl rfl rfl ?_; apply Exists.intro; refine ⟨fun w' hK => ?_, ?_, ?_⟩; (obtain ⟨g0, g1, g2⟩ := sat.ent2 hK (hc3.out k3 hlt2); go_wp2; exact ⟨rfl, rfl, rfl⟩); rfl)
                      iterate 4 (refine wpD_pure _ rfl rfl rfl ?_; apply Exists.intro; refine ⟨fun w' => ?_, ?_, ?_⟩; (go_wp2; exact ⟨rfl, rfl, rfl⟩); rfl)
                      (refine wpD_reads _ rfl rfl rfl ?_; apply Exists.intro; refine ⟨fun w' hK => ?_, ?_, ?_⟩; (obtain ⟨g0, g1, g2⟩ := sat.ent2 hK (hc3.out (k3 + 1) hlt3); go_wp2; exact ⟨rfl, rfl, rfl⟩); rfl)
                      iterate 3 (refine wpD_pure _ rfl rfl rfl ?_; apply Exists.intro; refine ⟨fun w' => ?_, ?_, ?_⟩; (go_wp2; exact ⟨rfl, rfl, rfl⟩); rfl)
                      refine wpD_nil (fun w7 hs7 => ?_)
                      go_wp2
                      go_roundw
                      case rel => exact ⟨k3 + 1, by omega, by go_num, hs7⟩
                      case measure => simp [intOf]; omega
              · have hlt4 : ¬ ((k3 : Int) + 1 < es.length) := by omega
                have hTe := hX E3 _ (.refl E3) hs
                go_wp2_with fail
                refine (lenE E3 _ A r m hTe).mono ?_
                rintro e w20 ⟨_, rfl, rfl, rfl⟩
                rw [← hl3.out]
                have hR' := hR1.out _ (hTe.sat.le (hE.out.trans hE3))
                clear hR1 hTe hX hs
                go_wp2
                try go_ret
                exact hR'
end Go.Proofs.Ytmibiaakppkmmaa
