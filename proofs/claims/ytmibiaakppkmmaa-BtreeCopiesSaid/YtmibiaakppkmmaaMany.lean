/- The tree of some steps. -/
import Derived.Test.YtmibiaakppkmmaaLarge
namespace Go.Proofs.Ytmibiaakppkmmaa
open Go.RowKit Go.Sep
set_option linter.unusedVariables false
set_option linter.unusedSimpArgs false

def Stp.kv (s : Stp) : KV := (s.l, s.id)

/-- one behind the other put in -/
def putAll (l : List KV) : List KV := l.foldl (fun a x => put1 x a) []

theorem put1_length (x : KV) (l : List KV) : (put1 x l).length ≤ l.length + 1 := by
  induction l with
  | nil => simp [put1]
  | cons y l ih =>
    simp only [put1]
    split
    · simp; omega
    · split <;> simp

theorem putAll_snoc (l : List KV) (x : KV) : putAll (l ++ [x]) = put1 x (putAll l) := by simp [putAll]

theorem putAll_step (l : List Stp) (k : Nat) (h : k < l.length) : putAll ((l.map Stp.kv).take (k + 1)) = put1 l[k].kv (putAll ((l.map Stp.kv).take k)) := by
  rw [List.take_succ_eq_append_getElem (by simpa using h), putAll_snoc]
  simp

set_option maxRecDepth 10000 in
set_option maxHeartbeats 2000000 in
theorem manyTree (E : Env) (w : World) (A : Asn) (v : Value) (l : List Stp) (hs : sat E w A) (h : Env.steps E v l) (hf : few l) :
    Calls Try.prog 10 #[v] w (Ret fun r w' => ∃ p E' h es, r = ptr p ∧ E.le E' ∧ Tree E' w' A p h es ∧ kvs es = putAll (l.map Stp.kv) ∧ es.length ≤ 800) := by
  refine ret_hide fun R hR => ?_
  obtain ⟨hn, hg, a, b, o, cap, rfl, ha, hc⟩ := h
  replace hc := Lib.hid hc
  replace hg := Lib.hid hg
  rcases ha with ⟨rfl, hl⟩ | rfl
  all_goals
    go_enter Try.func10, Try.ntmps10
    go_wp2_with fail
    refine (treeNew E w A hs).mono ?_
    rintro e w1 ⟨_, rfl, r, rfl, hT⟩
    unfold ptr
    clear hs
    go_wp2
    go_loopw [4] (fun i wr => ∃ k : Nat, k ≤ l.length ∧ i = .int .i64 k ∧ ∃ E' h es, E.le E' ∧ Tree E' wr A r h es ∧ kvs es = putAll ((l.map Stp.kv).take k) ∧ es.length ≤ k) (fun i _ => l.length - (intOf i).toNat)
    case atStart => exact ⟨0, Nat.zero_le _, rfl, E, 0, [], .refl E, hT, rfl, Nat.le_refl _⟩
    case round =>
      clear hT
      obtain ⟨k, hk, rfl, E', h, es, hE, hT, hkv, hle⟩ := hrel
      replace hkv := Lib.hid hkv
      replace hE := Lib.hid hE
      have hf1 := hf.1
      by_cases hlt : k < l.length
      · first
          | exact no_lt hl hlt
          | have hsk := hg.out _ (List.getElem_mem hlt)
            have hbk := hf.2 _ (List.getElem_mem hlt)
            have hv1 : E'.vals l[k].k l[k].l := hsk.1.le hE.out
            have hc' : Hid (∀ i, (h : i < l.length) → E'.cell? b (o + i * 4) = some (.int .u8 l[i].kind) ∧ E'.cell? b (o + i * 4 + 1) = some l[i].k ∧ E'.cell? b (o + i * 4 + 2) = some l[i].k2 ∧ E'.cell? b (o + i * 4 + 3) = some (.int .i64 l[i].id)) := fun i hi => ⟨hE.out.cell (hc.out i hi).1, hE.out.cell (hc.out i hi).2.1, hE.out.cell (hc.out i hi).2.2.1, hE.out.cell (hc.out i hi).2.2.2⟩
            clear hR
            have hs := hT.2.2
            go_wp2
            refine wp_draw_lit [(0,3),(1,3),(2,3),(3,3),(4,3),(5,0),(6,3),(7,3),(8,3),(9,3),(10,0),(11,2)] (sat E' · (tree r h es * A)) (by kernel_rfl) (by kernel_rfl) rfl hs.drew ?_
            iterate 5 (refine wpD_pure _ rfl rfl rfl ?_; apply Exists.intro; refine ⟨fun w' => ?_, ?_, ?_⟩; (go_wp2; exact ⟨rfl, rfl, rfl⟩); rfl)
            (refine wpD_reads _ rfl rfl rfl ?_; apply Exists.intro; refine ⟨fun w' hK => ?_, ?_, ?_⟩; (obtain ⟨g0, g1, g2, g3, g4⟩ := sat.stp hK (hc'.out k hlt); go_wp2; exact ⟨rfl, rfl, rfl⟩); rfl)
            iterate 4 (refine wpD_pure _ rfl rfl rfl ?_; apply Exists.intro; refine ⟨fun w' => ?_, ?_, ?_⟩; (go_wp2; exact ⟨rfl, rfl, rfl⟩); rfl)
            (refine wpD_reads _ rfl rfl rfl ?_; apply Exists.intro; refine ⟨fun w' hK => ?_, ?_, ?_⟩; (obtain ⟨g0, g1, g2, g3, g4⟩ := sat.stp hK (hc'.out k hlt); go_wp2; exact ⟨rfl, rfl, rfl⟩); rfl)
            refine wpD_does (by decide) rfl rfl (fun Nx hNx w' hK => ?_)
            go_wp2_with fail
            refine (treePut E' _ _ r h es _ _ _ ⟨hT.1, hT.2.1, hK⟩ hv1 (by omega) (by omega)).mono ?_
            rintro e w3 ⟨_, rfl, E2, h2, es2, hE2, hT2, hkv2, rfl⟩
            have hkv3 : Hid (kvs es2 = putAll ((l.map Stp.kv).take (k + 1))) := by
              show kvs es2 = _
              rw [putAll_step l k hlt, ← hkv.out]; exact hkv2
            have hlen : es2.length ≤ k + 1 := by
              have h1 := congrArg List.length hkv2
              have h2 := put1_length (l[k].l, l[k].id) (kvs es)
              simp only [kvs, List.length_map] at h1 h2
              omega
            clear hkv2
            generalize decide ((l[k].l, l[k].id) ∉ kvs es) = bb
            go_wp2_with fail
            refine ⟨rfl, (fun x => Tree E2 x A r h2 es2), hT2, fun h => (by cases h), hNx _ _ ?_⟩
            clear hT2 hK hNx hT hs
            refine wpD_nil (fun w5 hT => ?_)
            go_wp2
            go_roundw
            case rel => exact ⟨k + 1, by omega, by go_num, E2, h2, es2, hE.out.trans hE2, hT, hkv3.out, hlen⟩
            case measure => simp [intOf]; omega
      · have hkl : k = l.length := by omega
        have hR' := hR.out _ _ ⟨r, E', h, es, rfl, hE.out, hT, by rw [hkv.out, hkl, ← List.length_map (f := Stp.kv), List.take_length], by omega⟩
        unfold ptr at hR'
        clear hR hkl
        go_wp2
        try go_ret
        exact hR'

end Go.Proofs.Ytmibiaakppkmmaa
