/- Whether entries are those of some numbers, by turns key and number. -/
import Derived.Test.YtmibiaakppkmmaaFind2
namespace Go.Proofs.Ytmibiaakppkmmaa
open Go.RowKit Go.Sep
set_option linter.unusedVariables false
set_option linter.unusedSimpArgs false

set_option maxRecDepth 10000 in
set_option maxHeartbeats 2000000 in
theorem isEnts (E : Env) (w : World) (A : Asn) (v1 v2 : Value) (l : List Ent) (m : List Int) (hs : sat E w A) (h1 : Env.ents E v1 l) (h2 : Env.ints E v2 m) (hm1 : m.length ≤ 2 * l.length) (hm2 : 2 * l.length ≤ m.length)
    (hk : ∀ i (h : i < l.length), l[i].l = num (m[2 * i]'(by omega)) ∧ l[i].id = m[2 * i + 1]'(by omega)) :
    Calls Try.prog 26 #[v1, v2] w (Ret fun v w' => v = .bool true ∧ sat E w' A) := by
  obtain ⟨hn1, hg1, a1, b1, o1, cap1, rfl, ha1, h1⟩ := h1
  obtain ⟨hn2, a2, b2, o2, cap2, rfl, ha2, h2⟩ := h2
  replace h1 := Lib.hid h1
  replace h2 := Lib.hid h2
  replace hk := Lib.hid hk
  have hm3 : (2 * (l.length : Int)) = (m.length : Int) := by omega
  have hb : (l.length : Int) ≤ 1000000 := by omega
  have hmi : ((2 * (l.length : Int)) != (m.length : Int)) = false := by rw [hm3]; simp
  refine ret_hide fun R hR => ?_
  have hR1 := fun (w' : World) (h' : sat E w' A) => hR.out _ w' ⟨rfl, h'⟩
  replace hR1 := Lib.hid hR1
  clear hR
  rcases ha1 with ⟨rfl, hl1⟩ | rfl <;> rcases ha2 with ⟨rfl, hl2⟩ | rfl
  all_goals
    replace hm3 := Lib.hid hm3
    go_enter Try.func26, Try.ntmps26
    go_wp2
    go_loopw [5] (fun i wr => ∃ k : Nat, k ≤ l.length ∧ i = .int .i64 k ∧ sat E wr A) (fun i _ => l.length - (intOf i).toNat)
    case atStart => exact ⟨0, Nat.zero_le _, rfl, hs⟩
    case round =>
      clear hs
      obtain ⟨k, hkl, rfl, hs⟩ := hrel
      by_cases hlt : k < l.length
      · have hlt2 : 2 * k < m.length := by omega
        have hlt3 : 2 * k + 1 < m.length := by omega
        first
          | exact no_lt hl1 hlt
          | exact no_lt hl2 hlt2
          | have hv1 : E.vals l[k].k l[k].l := hg1 _ (List.getElem_mem _)
            have hkk := Lib.hid (hk.out k hlt)
            have hid : (l[k].id != m[2 * k + 1]) = false := by simp [hkk.out.2]
            have hne : Hid (decide (l[k].l = num m[2 * k]) = true) := by show decide _ = true; simp [hkk.out.1]
            have hkb : (k : Int) ≤ 1000000 := by omega
            go_wp2
            refine wp_draw_lit [(0,3),(1,3),(2,3),(3,3),(4,0),(5,3),(6,3),(7,3),(8,3),(9,0),(10,1),(11,1),(12,3),(13,3),(14,3),(15,3),(16,3),(17,3),(18,0),(19,3),(20,3),(21,3),(22,3),(23,3),(24,0),(25,3),(26,3)] (sat E · A) (by kernel_rfl) (by kernel_rfl) rfl hs.drew ?_
            iterate 4 (refine wpD_pure _ rfl rfl rfl ?_; apply Exists.intro; refine ⟨fun w' => ?_, ?_, ?_⟩; (go_wp2; exact ⟨rfl, rfl, rfl⟩); rfl)
            (refine wpD_reads _ rfl rfl rfl ?_; apply Exists.intro; refine ⟨fun w' hK => ?_, ?_, ?_⟩; (obtain ⟨g0, g1, g2⟩ := sat.ent2 hK (h1.out k hlt); go_wp2; exact ⟨rfl, rfl, rfl⟩); rfl)
            iterate 4 (refine wpD_pure _ rfl rfl rfl ?_; apply Exists.intro; refine ⟨fun w' => ?_, ?_, ?_⟩; (go_wp2; exact ⟨rfl, rfl, rfl⟩); rfl)
            (refine wpD_reads _ rfl rfl rfl ?_; apply Exists.intro; refine ⟨fun w' hK => ?_, ?_, ?_⟩; (have g0 := hK.cell_lt (h2.out (2 * k) hlt2); have g1 := hK.cell (h2.out (2 * k) hlt2); go_wp2; exact ⟨rfl, rfl, rfl⟩); rfl)
            refine wpD_does (by decide) rfl rfl (fun Nx hNx w' hK => ?_)
            go_wp2_with fail
            refine (oneKey E _ _ m[2 * k] hK).mono ?_
            rintro e w3 ⟨nv, rfl, E2, hE2, hs3, hv3⟩
            obtain ⟨an, cn, rfl⟩ := hv3.slice
            go_wp2_with fail
            refine ⟨rfl, (sat E2 · A), hs3, fun _ x hx => hx.le hE2, hNx _ _ ?_⟩
            clear hs3 hK hNx hs
            refine wpD_does (by decide) rfl rfl (fun Nx hNx w' hK => ?_)
            go_wp2_with fail
            refine (refSame E2 _ _ _ _ _ _ hK (hv1.le hE2) hv3).mono ?_
            rintro e w3 ⟨_, rfl, rfl, hs3⟩
            rw [hne.out]
            go_wp2_with fail
            refine ⟨rfl, (sat E2 · A), hs3, fun _ x hx => hx, hNx _ _ ?_⟩
            clear hs3 hK hNx hv3
            iterate 6 (refine wpD_pure _ rfl rfl rfl ?_; apply Exists.intro; refine ⟨fun w' => ?_, ?_, ?_⟩; (go_wp2; exact ⟨rfl, rfl, rfl⟩); rfl)
            (refine wpD_reads _ rfl rfl rfl ?_; apply Exists.intro; refine ⟨fun w' hK => ?_, ?_, ?_⟩; (obtain ⟨g0, g1, g2⟩ := sat.ent2 (hK.le hE2) (h1.out k hlt); go_wp2; exact ⟨rfl, rfl, rfl⟩); rfl)
            iterate 5 (refine wpD_pure _ rfl rfl rfl ?_; apply Exists.intro; refine ⟨fun w' => ?_, ?_, ?_⟩; (go_wp2; exact ⟨rfl, rfl, rfl⟩); rfl)
            (refine wpD_reads _ rfl rfl rfl ?_; apply Exists.intro; refine ⟨fun w' hK => ?_, ?_, ?_⟩; (have g0 := (hK.le hE2).cell_lt (h2.out (2 * k + 1) hlt3); have g1 := (hK.le hE2).cell (h2.out (2 * k + 1) hlt3); go_wp2; exact ⟨rfl, rfl, rfl⟩); rfl)
            iterate 2 (refine wpD_pure _ rfl rfl rfl ?_; apply Exists.intro; refine ⟨fun w' => ?_, ?_, ?_⟩; (go_wp2; exact ⟨rfl, rfl, rfl⟩); rfl)
            refine wpD_nil (fun w5 hs5 => ?_)
            have hs6 := hs5.le hE2
            clear hkk hne hv1 hs5 hE2
            go_wp2
            go_roundw
            case rel => exact ⟨k + 1, by omega, by go_num, hs6⟩
            case measure => simp [intOf]; omega
      · have hR' := hR1.out _ hs
        clear hR1
        go_wp2
        try go_ret
        exact hR'
end Go.Proofs.Ytmibiaakppkmmaa
