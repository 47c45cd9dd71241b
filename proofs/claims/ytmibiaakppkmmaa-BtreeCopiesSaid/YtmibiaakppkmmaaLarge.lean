/- How much values are; whether steps are too many; the tree of some steps. -/
import Derived.Test.YtmibiaakppkmmaaSimple
namespace Go.Proofs.Ytmibiaakppkmmaa
open Go.RowKit Go.Sep
set_option linter.unusedVariables false
set_option linter.unusedSimpArgs false

/-- texts of values are no longer than a machine's -/
def fits (l : List Val) : Prop := ∀ x ∈ l, x.t.length ≤ 140737488355328

set_option maxRecDepth 10000 in
set_option maxHeartbeats 1000000 in
theorem sizeOf (E : Env) (w : World) (A : Asn) (v : Value) (l : List Val) (hs : sat E w A) (h : E.vals v l) (hb : fits l) :
    Calls Try.prog 9 #[v] w (Ret fun r w' => ∃ n : Nat, r = .int .i64 n ∧ n ≤ 150000000000000 ∧ (n < 100000 → 4 + 4 * l.length ≤ n) ∧ sat E w' A) := by
  refine ret_hide fun R hR => ?_
  obtain ⟨hn, a, b, o, cap, rfl, ha, hc⟩ := h
  replace hc := Lib.hid hc
  replace hb := Lib.hid hb
  rcases ha with hl | rfl
  all_goals
    go_enter Try.func9, Try.ntmps9
    go_wp2
    go_loopw [3, 4] (fun m i wr => ∃ k n : Nat, k ≤ l.length ∧ i = .int .i64 k ∧ m = .int .i64 n ∧ n ≤ 150000000000000 ∧ 4 + 4 * k ≤ n ∧ sat E wr A) (fun m i _ => l.length - (intOf i).toNat)
    case atStart => exact ⟨0, 4, Nat.zero_le _, rfl, rfl, by omega, by omega, hs⟩
    case round =>
      clear hs
      obtain ⟨k, n, hk, rfl, rfl, hn1, hn2, hs⟩ := hrel
      by_cases hlt : k < l.length
      · first
          | exact no_lt hl hlt
          | by_cases hm : n < 100000
            · obtain ⟨lt1, c1, c2, c3, c4⟩ := hs.val (hc.out k hlt)
              have hbk := hb.out _ (List.getElem_mem hlt)
              have hm' : (n : Int) < 100000 := by omega
              replace hm := Lib.hid hm
              replace hn2 := Lib.hid hn2
              clear hR
              go_wp2
              go_roundw
              case rel => exact ⟨k + 1, n + 4 + l[k].t.length, by omega, by go_num, by go_num, by have := hm.out; omega, by have := hn2.out; omega, hs⟩
              case measure => simp [intOf]; omega
            · have hR' := hR.out _ _ ⟨n, rfl, hn1, fun h => absurd h hm, hs⟩
              have hm' : ¬ ((n : Int) < 100000) := by omega
              clear hR hm hn2 hn1
              go_wp2
              try go_ret
              exact hR'
      · have hR' := hR.out _ _ ⟨n, rfl, hn1, fun _ => by omega, hs⟩
        clear hR
        go_wp2
        try go_ret
        exact hR'

theorem sat.stp {E : Env} {w : World} {A : Asn} (hs : sat E w A) {b off : Nat} {s : Stp} (h : E.cell? b off = some (.int .u8 s.kind) ∧ E.cell? b (off + 1) = some s.k ∧ E.cell? b (off + 2) = some s.k2 ∧ E.cell? b (off + 3) = some (.int .i64 s.id)) :
    b < w.heap.size ∧ w.cell? ⟨b, off, none⟩ = some (.int .u8 s.kind) ∧ w.cell? ⟨b, off + 1, none⟩ = some s.k ∧ w.cell? ⟨b, off + 2, none⟩ = some s.k2 ∧ w.cell? ⟨b, off + 3, none⟩ = some (.int .i64 s.id) :=
  ⟨hs.cell_lt h.1, hs.cell h.1, hs.cell h.2.1, hs.cell h.2.2.1, hs.cell h.2.2.2⟩

/-- steps of a size that a machine has, and numbers that are numbers -/
def fitsS (l : List Stp) : Prop := ∀ s ∈ l, fits s.l ∧ fits s.l2

def few (l : List Stp) : Prop := l.length ≤ 800 ∧ ∀ s ∈ l, s.l.length ≤ 30000 ∧ s.l2.length ≤ 30000

set_option maxRecDepth 10000 in
set_option maxHeartbeats 2000000 in
theorem large (E : Env) (w : World) (A : Asn) (v : Value) (l : List Stp) (hs : sat E w A) (h : Env.steps E v l) (hb : fitsS l) :
    Calls Try.prog 8 #[v] w (Ret fun r w' => ∃ b, r = .bool b ∧ (b = false → few l) ∧ sat E w' A) := by
  refine ret_hide fun R hR => ?_
  obtain ⟨hn, hg, a, b, o, cap, rfl, ha, hc⟩ := h
  replace hc := Lib.hid hc
  replace hb := Lib.hid hb
  replace hg := Lib.hid hg
  rcases ha with ⟨rfl, hl⟩ | rfl
  all_goals
    go_enter Try.func8, Try.ntmps8
    go_wp2
    go_loopw [3, 4] (fun m i wr => ∃ k n : Nat, k ≤ l.length ∧ i = .int .i64 k ∧ m = .int .i64 n ∧ n ≤ 400000000000000 ∧ Hid (n < 30000 → ∀ j (h : j < l.length), j < k → l[j].l.length ≤ 30000 ∧ l[j].l2.length ≤ 30000) ∧ sat E wr A) (fun m i _ => l.length - (intOf i).toNat)
    case atStart => exact ⟨0, 0, Nat.zero_le _, rfl, rfl, by omega, Lib.hid (fun _ _ _ h => absurd h (Nat.not_lt_zero _)), hs⟩
    case round =>
      clear hs
      obtain ⟨k, n, hk, rfl, rfl, hn1, hj, hs⟩ := hrel
      by_cases hlt : k < l.length
      · first
          | exact no_lt hl hlt
          | by_cases hm : n < 30000
            · have hsk := hg.out _ (List.getElem_mem hlt)
              have hbk := hb.out _ (List.getElem_mem hlt)
              obtain ⟨hv1, hv2⟩ := hsk
              obtain ⟨ak, ck, hke⟩ := hv1.slice
              obtain ⟨ak2, ck2, hke2⟩ := hv2.slice
              replace hke := Lib.hid hke
              replace hke2 := Lib.hid hke2
              have hm' : (n : Int) < 30000 := by omega
              replace hm := Lib.hid hm
              replace hn1 := Lib.hid hn1
              clear hR
              go_wp2
              refine wp_draw_lit [(0,3),(1,3),(2,3),(3,3),(4,3),(5,0),(8,3),(9,3),(10,3),(11,3),(12,0),(6,1),(7,3),(13,2),(14,3),(15,3)] (sat E · A) (by kernel_rfl) (by kernel_rfl) rfl hs.drew ?_
              iterate 5 (refine wpD_pure _ rfl rfl rfl ?_; apply Exists.intro; refine ⟨fun w' => ?_, ?_, ?_⟩; (go_wp2; exact ⟨rfl, rfl, rfl⟩); rfl)
              (refine wpD_reads _ rfl rfl rfl ?_; apply Exists.intro; refine ⟨fun w' hK => ?_, ?_, ?_⟩; (obtain ⟨g0, g1, g2, g3, g4⟩ := sat.stp hK (hc.out k hlt); go_wp2; exact ⟨rfl, rfl, rfl⟩); rfl)
              iterate 4 (refine wpD_pure _ rfl rfl rfl ?_; apply Exists.intro; refine ⟨fun w' => ?_, ?_, ?_⟩; (go_wp2; exact ⟨rfl, rfl, rfl⟩); rfl)
              (refine wpD_reads _ rfl rfl rfl ?_; apply Exists.intro; refine ⟨fun w' hK => ?_, ?_, ?_⟩; (obtain ⟨g0, g1, g2, g3, g4⟩ := sat.stp hK (hc.out k hlt); go_wp2; exact ⟨rfl, rfl, rfl⟩); rfl)
              refine wpD_does (by decide) rfl rfl (fun Nx hNx w' hK => ?_)
              go_wp2_with fail
              refine (sizeOf E _ _ _ _ hK hv1 hbk.1).mono ?_
              rintro e w3 ⟨_, rfl, n1, rfl, hn3, hn4, hs3⟩
              go_wp2_with fail
              refine ⟨rfl, (sat E · A), hs3, fun _ x hx => hx, hNx _ _ ?_⟩
              clear hs3 hK hNx
              have hmm := hm.out
              iterate 1 (refine wpD_pure _ rfl rfl rfl ?_; apply Exists.intro; refine ⟨fun w' => ?_, ?_, ?_⟩; (go_wp2; exact ⟨rfl, rfl, rfl⟩); rfl)
              refine wpD_does (by decide) rfl rfl (fun Nx hNx w' hK => ?_)
              go_wp2_with fail
              refine (sizeOf E _ _ _ _ hK hv2 hbk.2).mono ?_
              rintro e w3 ⟨_, rfl, n2, rfl, hn5, hn6, hs3⟩
              go_wp2_with fail
              refine ⟨rfl, (sat E · A), hs3, fun h => (by cases h), hNx _ _ ?_⟩
              clear hs3 hK hNx
              iterate 2 (refine wpD_pure _ rfl rfl rfl ?_; apply Exists.intro; refine ⟨fun w' => ?_, ?_, ?_⟩; (go_wp2; exact ⟨rfl, rfl, rfl⟩); rfl)
              refine wpD_nil (fun w5 hs => ?_)
              have hj2 : Hid (n + n1 + n2 < 30000 → ∀ j (h : j < l.length), j < k + 1 → l[j].l.length ≤ 30000 ∧ l[j].l2.length ≤ 30000) := fun h j hjl hjk => by
                by_cases hjk2 : j < k
                · exact hj.out (by omega) j hjl hjk2
                · have : j = k := by omega
                  subst this
                  have h4 := hn4 (by omega)
                  have h6 := hn6 (by omega)
                  omega
              go_wp2
              go_roundw
              case rel => exact ⟨k + 1, n + n1 + n2, by omega, by go_num, by go_num, by omega, hj2, hs⟩
              case measure => simp [intOf]; omega
            · have hR' := hR.out _ _ ⟨true, rfl, fun h => (by cases h), hs⟩
              have hm' : ¬ ((n : Int) < 30000) := by omega
              have hm2 : (30000 : Int) ≤ n := by omega
              clear hR hm hn1
              go_wp2
              try go_ret
              exact hR'
      · have hkl : k = l.length := by omega
        by_cases hm : n < 30000
        · by_cases h8 : l.length ≤ 800
          · have hR' := hR.out _ _ ⟨false, rfl, fun _ => ⟨h8, fun s hs => by
              obtain ⟨j, hjl, rfl⟩ := List.getElem_of_mem hs
              exact hj.out hm j hjl (by omega)⟩, hs⟩
            have hm' : ¬ ((30000 : Int) ≤ n) := by omega
            have h8' : ¬ ((800 : Int) < l.length) := by omega
            clear hR hm hn1 hkl h8
            go_wp2
            try go_ret
            exact hR'
          · have hR' := hR.out _ _ ⟨true, rfl, fun h => (by cases h), hs⟩
            have hm' : ¬ ((30000 : Int) ≤ n) := by omega
            have h8' : (800 : Int) < l.length := by omega
            clear hR hm hn1 hkl h8
            go_wp2
            try go_ret
            exact hR'
        · have hR' := hR.out _ _ ⟨true, rfl, fun h => (by cases h), hs⟩
          have hm2 : (30000 : Int) ≤ n := by omega
          clear hR hm hn1 hkl
          go_wp2
          try go_ret
          exact hR'

end Go.Proofs.Ytmibiaakppkmmaa
