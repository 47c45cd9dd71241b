/- An entry is shifted: the other way. -/
import Derived.Test.YtmibiaakppkmmaaShift2
namespace Go.Proofs.Ytmibiaakppkmmaa
open Go.RowKit Go.Sep
set_option linter.unusedVariables false
set_option linter.unusedSimpArgs false

set_option maxRecDepth 100000 in
set_option maxHeartbeats 4000000 in
theorem shiftL (d : Nat) (E : Env) (w : World) (A : Asn) (p qa qb : Nat) (ve vk : Value) (ea eb : List Ent) (m : Ent) (ka kb : List Nat) (ta z tb : T d) (y : Ent)
    (hs : sat E w (nd p ve vk * (ents ve (ea ++ m :: eb) * (kids vk (ka ++ qa :: qb :: kb) * (node d qa ta * (node d qb (joinT z y tb) * A))))))
    (hl : ka.length = ea.length) (hz : z.es = []) (ha1 : 1 ≤ ta.es.length) (hb1 : 1 ≤ tb.es.length) (ha7 : ta.es.length ≤ 100) (hb7 : tb.es.length ≤ 100) (oka : ok d ta) (okz : ok d z) (okb : ok d tb) (hga : Env.goods E ta.es) (hgb : Env.goods E tb.es) (hgy : E.vals y.k y.l)
    (hg : Env.goods E (ea ++ m :: eb)) (hn : kb.length ≤ 1000) (hn' : ea.length + eb.length ≤ 1000) :
    Calls Try.prog 63 #[ptr p, .int .i64 ea.length, .bool false] w (Ret fun r w' => r = .tuple #[] ∧ ∃ ve' vk', sat E w' (nd p ve' vk' * (ents ve' (ea ++ y :: eb) * (kids vk' (ka ++ qa :: qb :: kb) * (node d qa (joinT ta m z) * (node d qb tb * A)))))) := by
  refine ret_hide fun R hR => ?_
  obtain ⟨va, vka, hva, hs⟩ := sat_nodeK.1 hs.p4
  obtain ⟨vb, vkb, hvb, hs⟩ := sat_nodeK.1 hs.p8
  have hes : (joinT z y tb).es = y :: tb.es := by rw [joinT, of_es, hz]; rfl
  have hU : sat E w (nd p ve vk * (ents ve (ea ++ m :: eb) * (kids vk (ka ++ qa :: qb :: kb) * (nd qa va vka * (ents va ta.es * (kids vka (ta.kl.map (·.1)) * (nd qb vb vkb * (ents vb (y :: tb.es) * (kids vkb ((z.kl ++ tb.kl).map (·.1)) * (nodesK d ta.kl * (nodesK d z.kl * (nodesK d tb.kl * A)))))))))))) := by
    rw [hes, nodesK_joinT, show (joinT z y tb).kl = z.kl ++ tb.kl from of_kl _ _] at hs
    exact hs.to (by ac_rfl)
  clear hs hes
  have hka := ok_kl oka
  have hkz := ok_kl okz
  have hkb := ok_kl okb
  rw [hz, List.length_nil] at hkz
  obtain ⟨g, cap, rfl, hcap, _⟩ := row_some hU.p2 (by simp)
  obtain ⟨gk, ck, rfl, hck, _⟩ := row_some hU.p3 (by simp)
  obtain ⟨ga, ca, rfl, hca, _⟩ := row_some hU.p5 (by omega)
  obtain ⟨gb, cb, rfl, hcb, _⟩ := row_some hU.p8 (by simp)
  have hlen2 : (y :: tb.es).length = tb.es.length + 1 := by simp
  rw [hlen2] at hU hcb
  replace hlen2 := Lib.hid hlen2
  have hlen : (ka ++ qa :: qb :: kb).length = ea.length + kb.length + 2 := by simp; omega
  have hlen' : (ea ++ m :: eb).length = ea.length + eb.length + 1 := by simp; omega
  have hgm : E.vals m.k m.l := hg m (by simp)
  generalize hNk : (ka ++ qa :: qb :: kb).length = Nk at *
  generalize hNe : (ea ++ m :: eb).length = Ne at *
  have hNk2 : ea.length + 2 ≤ Nk := by omega
  have hNe2 : ea.length + 1 ≤ Ne := by omega
  have hNk3 : Nk ≤ 5000 := by omega
  have hNe3 : Ne ≤ 5000 := by omega
  replace hlen := Lib.hid hlen
  replace hlen' := Lib.hid hlen'
  replace hNk := Lib.hid hNk
  replace hNe := Lib.hid hNe
  replace hl := Lib.hid hl
  replace hva := Lib.hid hva
  replace hvb := Lib.hid hvb
  replace hz := Lib.hid hz
  generalize hna : ta.es.length = na at *
  generalize hnb : tb.es.length = nb at *
  replace hna := Lib.hid hna
  replace hnb := Lib.hid hnb
  have kc1 : ∀ W X, sat E W (kids (.slice (some ⟨gk, 0, none⟩) Nk ck) (ka ++ qa :: qb :: kb) * X) → W.cell? ⟨gk, ea.length, none⟩ = some (ptr qa) ∧ W.cell? ⟨gk, ea.length + 1, none⟩ = some (ptr qb) := by
    intro W X h
    have h1 := kids_cell h ea.length (by rw [hNk.out]; omega)
    have h2 := kids_cell h (ea.length + 1) (by rw [hNk.out]; omega)
    refine ⟨h1.trans ?_, h2.trans ?_⟩
    · simp [← hl.out]
    · rw [List.getElem_append_right (by rw [hl.out]; omega)]; simp [hl.out]
  replace kc1 := Lib.hid kc1
  have ec1 : ∀ W X, sat E W (ents (.slice (some ⟨g, 0, none⟩) Ne cap) (ea ++ m :: eb) * X) → g < W.heap.size ∧ W.cell? ⟨g, ea.length * 2, none⟩ = some m.k ∧ W.cell? ⟨g, ea.length * 2 + 1, none⟩ = some (.int .i64 m.id) ∧ W.frozen? ⟨g, ea.length * 2, none⟩ = false ∧ W.frozen? ⟨g, ea.length * 2 + 1, none⟩ = false := by
    intro W X h
    have := ents_cell h ea.length (by rw [hNe.out]; omega)
    simpa using this
  replace ec1 := Lib.hid ec1
  have ec2 : ∀ W X, sat E W (ents (.slice (some ⟨gb, 0, none⟩) (nb + 1) cb) (y :: tb.es) * X) → gb < W.heap.size ∧ W.cell? ⟨gb, 0, none⟩ = some y.k ∧ W.cell? ⟨gb, 1, none⟩ = some (.int .i64 y.id) ∧ W.frozen? ⟨gb, 0, none⟩ = false ∧ W.frozen? ⟨gb, 1, none⟩ = false := by
    intro W X h
    have := ents_cell h 0 (by simp)
    simpa using this
  replace ec2 := Lib.hid ec2
  have hone : m.k.oneCell' = true := vals_one hgm
  have hone2 : y.k.oneCell' = true := vals_one hgy
  unfold ptr
  have qn := fun (W : World) a n c => run_neq_slice_nil_any (P := Try.prog) W 62 55 a n c 0 0 Try.underlying62
  go_enter Try.func63, Try.ntmps63
  go_wp2_with fail
  refine wp_draw_lit [(0,3),(1,3),(2,3),(3,0),(4,3),(5,3),(6,0),(7,3),(8,3),(9,3),(10,0),(11,3),(12,3),(13,3),(14,0),(15,3),(16,3)] (sat E · _) (by kernel_rfl) (by kernel_rfl) rfl hU.drew ?_
  clear hU
  iterate 3 (refine wpD_pure _ rfl rfl rfl ?_; apply Exists.intro; refine ⟨fun w' => ?_, ?_, ?_⟩; (go_wp2; exact ⟨rfl, rfl, rfl⟩); rfl)
  (refine wpD_reads _ rfl rfl rfl ?_; apply Exists.intro; refine ⟨fun w' hK => ?_, ?_, ?_⟩; (obtain ⟨p0, p1, p2, p3, p4⟩ := nd_cells hK; go_wp2; exact ⟨rfl, rfl, rfl⟩); rfl)
  iterate 2 (refine wpD_pure _ rfl rfl rfl ?_; apply Exists.intro; refine ⟨fun w' => ?_, ?_, ?_⟩; (go_wp2; exact ⟨rfl, rfl, rfl⟩); rfl)
  (refine wpD_reads _ rfl rfl rfl ?_; apply Exists.intro; refine ⟨fun w' hK => ?_, ?_, ?_⟩; (obtain ⟨p0, p1⟩ := kc1.out _ _ hK.p3; unfold ptr at p0 p1; go_wp2; exact ⟨rfl, rfl, rfl⟩); rfl)
  iterate 3 (refine wpD_pure _ rfl rfl rfl ?_; apply Exists.intro; refine ⟨fun w' => ?_, ?_, ?_⟩; (go_wp2; exact ⟨rfl, rfl, rfl⟩); rfl)
  (refine wpD_reads _ rfl rfl rfl ?_; apply Exists.intro; refine ⟨fun w' hK => ?_, ?_, ?_⟩; (obtain ⟨p0, p1, p2, p3, p4⟩ := nd_cells hK; go_wp2; exact ⟨rfl, rfl, rfl⟩); rfl)
  iterate 3 (refine wpD_pure _ rfl rfl rfl ?_; apply Exists.intro; refine ⟨fun w' => ?_, ?_, ?_⟩; (go_wp2; exact ⟨rfl, rfl, rfl⟩); rfl)
  (refine wpD_reads _ rfl rfl rfl ?_; apply Exists.intro; refine ⟨fun w' hK => ?_, ?_, ?_⟩; (obtain ⟨p0, p1⟩ := kc1.out _ _ hK.p3; unfold ptr at p0 p1; go_wp2; exact ⟨rfl, rfl, rfl⟩); rfl)
  iterate 2 (refine wpD_pure _ rfl rfl rfl ?_; apply Exists.intro; refine ⟨fun w' => ?_, ?_, ?_⟩; (go_wp2; exact ⟨rfl, rfl, rfl⟩); rfl)
  refine wpD_nil (fun w1 hU => ?_)
  -- the entry between them, behind the left kid's
  go_wp2_with fail
  refine wp_draw_lit [(0,3),(1,3),(2,3),(3,3),(4,0),(5,3),(6,3),(7,3),(8,0),(9,3),(10,3),(11,0),(12,1),(13,2),(14,3),(15,3),(16,2)] (sat E · _) (by kernel_rfl) (by kernel_rfl) rfl hU.drew ?_
  clear hU
  iterate 4 (refine wpD_pure _ rfl rfl rfl ?_; apply Exists.intro; refine ⟨fun w' => ?_, ?_, ?_⟩; (go_wp2; exact ⟨rfl, rfl, rfl⟩); rfl)
  (refine wpD_reads _ rfl rfl rfl ?_; apply Exists.intro; refine ⟨fun w' hK => ?_, ?_, ?_⟩; (obtain ⟨p0, p1, p2, p3, p4⟩ := nd_cells hK.p4; go_wp2; exact ⟨rfl, rfl, rfl⟩); rfl)
  iterate 3 (refine wpD_pure _ rfl rfl rfl ?_; apply Exists.intro; refine ⟨fun w' => ?_, ?_, ?_⟩; (go_wp2; exact ⟨rfl, rfl, rfl⟩); rfl)
  (refine wpD_reads _ rfl rfl rfl ?_; apply Exists.intro; refine ⟨fun w' hK => ?_, ?_, ?_⟩; (obtain ⟨p0, p1, p2, p3, p4⟩ := nd_cells hK; go_wp2; exact ⟨rfl, rfl, rfl⟩); rfl)
  iterate 2 (refine wpD_pure _ rfl rfl rfl ?_; apply Exists.intro; refine ⟨fun w' => ?_, ?_, ?_⟩; (go_wp2; exact ⟨rfl, rfl, rfl⟩); rfl)
  (refine wpD_reads _ rfl rfl rfl ?_; apply Exists.intro; refine ⟨fun w' hK => ?_, ?_, ?_⟩; (obtain ⟨p0, p1, p2, p3, p4⟩ := ec1.out _ _ hK.p2; go_wp2; exact ⟨rfl, rfl, rfl⟩); rfl)
  refine wpD_does (by decide) rfl rfl (fun Nx hNx w' hK => ?_)
  go_wp2_with fail
  refine ⟨rfl, (fun x => sat E x _), hK.alloc (.cells #[m.k, .int .i64 m.id] 35), fun _ x hx => hx.drop, hNx _ _ ?_⟩
  generalize w'.heap.size = b at *
  clear hK hNx
  refine wpD_does (by decide) rfl rfl (fun Nx hNx w' hK => ?_)
  obtain ⟨i0, el⟩ := elEnt
  have hfy : firsts Try.prog w' 2 1 (.slice (some ⟨b, 0, none⟩) 1 1) [m.k, .int .i64 m.id] := by
    refine firsts_some rfl fun j x hj => ?_
    rw [add_lit, cell_of_block hK.block]
    simpa using hj
  obtain ⟨v', w6, hr6, hs6, _, hsz6, _, _⟩ := append_row el 29 (ents_row hK.p6 hna.out) (some ⟨b, 0, none⟩) 1 1 _ rfl hfy (fun u hu => by simp at hu; rcases hu with rfl | rfl; exact hone; rfl) (by unfold maxLen; omega) (by omega)
  have hs7 := row_ents (es := ta.es ++ [m]) hs6 (by simp [entCells, entCells_append]) (by rw [List.length_append, hna.out]; rfl)
  obtain ⟨g6, c6, rfl, _⟩ := row_some hs6 (by omega)
  generalize na + 1 = na1 at *
  replace hr6 := Lib.hid hr6
  clear hs6 hfy
  go_wp2_with (at_builtin; refine Lib.wpList_append_run _ rfl _ _ _ _ rfl _ _ rfl rfl _ _ hr6.out ?_)
  refine ⟨rfl, (fun x => sat E x _), hs7, fun h => (by cases h), hNx _ _ ?_⟩
  clear hs7 hK hNx hr6 hsz6
  iterate 2 (refine wpD_pure _ rfl rfl rfl ?_; apply Exists.intro; refine ⟨fun w' => ?_, ?_, ?_⟩; (go_wp2; exact ⟨rfl, rfl, rfl⟩); rfl)
  refine wpD_does (by decide) rfl rfl (fun Nx hNx w' hK => ?_)
  obtain ⟨p0, p1, p2, p3, p4⟩ := nd_cells hK.p6
  have hs9 := (nd_set0 (.slice (some ⟨g6, 0, none⟩) na1 c6) hK.p6).p3.drop
  go_wp2_with fail
  refine ⟨rfl, (fun x => sat E x _), hs9, fun h => (by cases h), hNx _ _ ?_⟩
  clear hs9 hK hNx p0 p1 p2 p3 p4
  refine wpD_nil (fun w3 hU => ?_)
  -- nd qa * (ents v' * (nd p * (ents ve * (kids vk * (kids vka * (nd qb * (ents vb * (kids vkb * Z))))))))
  go_wp2_with fail
  refine wp_draw_lit [(0,3),(1,3),(2,3),(3,0),(4,3),(5,3),(6,3),(7,3),(8,0),(9,3),(10,0),(11,3),(12,2)] (sat E · _) (by kernel_rfl) (by kernel_rfl) rfl hU.drew ?_
  clear hU
  iterate 3 (refine wpD_pure _ rfl rfl rfl ?_; apply Exists.intro; refine ⟨fun w' => ?_, ?_, ?_⟩; (go_wp2; exact ⟨rfl, rfl, rfl⟩); rfl)
  (refine wpD_reads _ rfl rfl rfl ?_; apply Exists.intro; refine ⟨fun w' hK => ?_, ?_, ?_⟩; (obtain ⟨p0, p1, p2, p3, p4⟩ := nd_cells hK.p3; go_wp2; exact ⟨rfl, rfl, rfl⟩); rfl)
  iterate 4 (refine wpD_pure _ rfl rfl rfl ?_; apply Exists.intro; refine ⟨fun w' => ?_, ?_, ?_⟩; (go_wp2; exact ⟨rfl, rfl, rfl⟩); rfl)
  (refine wpD_reads _ rfl rfl rfl ?_; apply Exists.intro; refine ⟨fun w' hK => ?_, ?_, ?_⟩; (obtain ⟨p0, p1, p2, p3, p4⟩ := nd_cells hK.p7; go_wp2; exact ⟨rfl, rfl, rfl⟩); rfl)
  iterate 1 (refine wpD_pure _ rfl rfl rfl ?_; apply Exists.intro; refine ⟨fun w' => ?_, ?_, ?_⟩; (go_wp2; exact ⟨rfl, rfl, rfl⟩); rfl)
  (refine wpD_reads _ rfl rfl rfl ?_; apply Exists.intro; refine ⟨fun w' hK => ?_, ?_, ?_⟩; (obtain ⟨p0, p1, p2, p3, p4⟩ := ec2.out _ _ hK.p8; go_wp2; exact ⟨rfl, rfl, rfl⟩); rfl)
  iterate 1 (refine wpD_pure _ rfl rfl rfl ?_; apply Exists.intro; refine ⟨fun w' => ?_, ?_, ?_⟩; (go_wp2; exact ⟨rfl, rfl, rfl⟩); rfl)
  refine wpD_does (by decide) rfl rfl (fun Nx hNx w' hK => ?_)
  obtain ⟨p0, p1, p2, p3, p4⟩ := ec1.out _ _ hK.p4
  have hs9 := ents_store y hNe.out hK.p4
  obtain ⟨ayk, cyk, hyk⟩ := hgy.slice
  rw [hyk] at hs9
  go_wp2_with fail
  refine ⟨rfl, (fun x => sat E x _), hs9, fun h => (by cases h), hNx _ _ ?_⟩
  clear hs9 hK hNx p0 p1 p2 p3 p4 hyk
  refine wpD_nil (fun w4 hU => ?_)
  -- ents ve * (nd qa * (ents v' * (nd p * (kids vk * (kids vka * (nd qb * (ents vb * (kids vkb * Z))))))))
  obtain ⟨p0, p1, p2, p3, p4⟩ := nd_cells hU.p7
  have hcall := delEnt E _ _ _ (nb + 1) (entCells (y :: tb.es)) 0 1 (by omega) (by omega) (by omega) (ents_row hU.p8 hlen2.out) (entCells_one (fun e he => by rcases List.mem_cons.1 he with rfl | he; exact hgy; exact hgb e he))
  replace hcall := Lib.hid hcall
  go_wp2_with fail
  refine hcall.out.mono ?_
  rintro e w5 ⟨v', rfl, hnn, hs4⟩
  have hs5 := row_ents (es := tb.es) hs4 (by simp [entCells]) (by rw [hnb.out]; omega)
  obtain ⟨g5, c5, rfl, _⟩ := row_some2 hs4 hnn
  generalize nb + 1 - (1 - 0) = nb5 at *
  clear hcall hs4 hnn p0 p1 p2 p3 p4 hU
  -- ents vb' * (ents ve * (nd qa * (ents v' * (nd p * (kids vk * (kids vka * (nd qb * (kids vkb * Z))))))))
  obtain ⟨p0, p1, p2, p3, p4⟩ := nd_cells hs5.p8
  have hs3 := nd_set0 (.slice (some ⟨g5, 0, none⟩) nb5 c5) hs5.p8
  obtain ⟨q0, q1, q2, q3, q4⟩ := nd_cells hs3
  -- nd qb * (ents vb' * (ents ve * (nd qa * (ents v' * (nd p * (kids vk * (kids vka * (kids vkb * Z))))))))
  rcases d with _ | d
  · obtain rfl := hva.out rfl
    obtain rfl := hvb.out rfl
    rw [show z.kl ++ tb.kl = tb.kl from (kl_zero _).trans (kl_zero _).symm, show ta.kl.map (·.1) = (joinT ta m z).kl.map (·.1) by rw [kl_zero ta.kl, kl_zero (joinT ta m z).kl]] at hs3
    have hfin := shut_two (ta := joinT ta m z) (tb := tb) (A := A) (p := p) (qa := qa) (qb := qb) (ve := .slice (some ⟨g, 0, none⟩) Ne cap) (vk := .slice (some ⟨gk, 0, none⟩) Nk ck) (va := .slice (some ⟨g6, 0, none⟩) na1 c6) (vb := .slice (some ⟨g5, 0, none⟩) nb5 c5) (vka := .slice none 0 0) (vkb := .slice none 0 0) (es := ea ++ y :: eb) (ps := ka ++ qa :: qb :: kb) (hs3.to (by rw [nodesK_joinT, show (joinT ta m z).es = ta.es ++ [m] by rw [joinT, of_es, hz.out]]; ac_rfl)) (fun _ => rfl) (fun _ => rfl)
    have hR' := hR.out (.tuple #[]) _ ⟨rfl, _, _, hfin⟩
    clear hR hfin hs3 hs5
    go_wp2_with fail
    exact bodyPost_end (v := .tuple #[]) (by simp [results, Try.results63]) rfl hR'
  · obtain ⟨kz, hkz'⟩ : ∃ kz, z.kl = [kz] := by
      cases h : z.kl with
      | nil => rw [h] at hkz; simp [kn] at hkz
      | cons a l => cases l with
        | nil => exact ⟨a, rfl⟩
        | cons b l => rw [h] at hkz; simp [kn] at hkz
    have hka' : ta.kl.length = na + 1 := by rw [hka]; rfl
    have hkb' : tb.kl.length = nb + 1 := by rw [hkb]; rfl
    obtain ⟨gka, cka, rfl, hcka, _⟩ := row_some hs3.p8 (by simp [hka'])
    obtain ⟨gkb, ckb, rfl, hckb, _⟩ := row_some hs3.p9 (by simp [hkz'])
    have hla : (ta.kl.map (·.1)).length = na + 1 := by simp [hka']
    have hlb : ((z.kl ++ tb.kl).map (·.1)).length = nb + 2 := by simp [hkb', hkz'] <;> omega
    rw [hla] at hs3 hcka
    rw [hlb] at hs3 hckb
    have kc2 : ∀ W X, sat E W (kids (.slice (some ⟨gkb, 0, none⟩) (nb + 2) ckb) ((z.kl ++ tb.kl).map (·.1)) * X) → W.cell? ⟨gkb, 0, none⟩ = some (ptr kz.1) := by
      intro W X h
      have h1 := kids_cell h 0 (by rw [hlb]; omega)
      refine h1.trans ?_
      simp [hkz']
    replace kc2 := Lib.hid kc2
    replace hla := Lib.hid hla
    replace hlb := Lib.hid hlb
    replace hkz' := Lib.hid hkz'
    replace hka' := Lib.hid hka'
    replace hkb' := Lib.hid hkb'
    replace hka := Lib.hid hka
    replace hkz := Lib.hid hkz
    replace hkb := Lib.hid hkb
    clear hs5
    obtain ⟨q0, q1, q2, q3, q4⟩ := nd_cells hs3
    go_wp2_with fail
    generalize w5.setCell ⟨qb, 0, none⟩ (.slice (some ⟨g5, 0, none⟩) nb5 c5) = w6 at *
    clear p0 p1 p2 p3 p4 q0 q1 q2 q3 q4
    refine wp_draw_lit [(0,3),(1,3),(2,3),(3,3),(4,0),(5,3),(6,3),(7,3),(8,0),(9,3),(10,0),(11,1),(12,2),(13,3),(14,3),(15,2)] (sat E · _) (by kernel_rfl) (by kernel_rfl) rfl hs3.drew ?_
    clear hs3
    iterate 4 (refine wpD_pure _ rfl rfl rfl ?_; apply Exists.intro; refine ⟨fun w' => ?_, ?_, ?_⟩; (go_wp2; exact ⟨rfl, rfl, rfl⟩); rfl)
    (refine wpD_reads _ rfl rfl rfl ?_; apply Exists.intro; refine ⟨fun w' hK => ?_, ?_, ?_⟩; (obtain ⟨p0, p1, p2, p3, p4⟩ := nd_cells hK.p4; go_wp2; exact ⟨rfl, rfl, rfl⟩); rfl)
    iterate 3 (refine wpD_pure _ rfl rfl rfl ?_; apply Exists.intro; refine ⟨fun w' => ?_, ?_, ?_⟩; (go_wp2; exact ⟨rfl, rfl, rfl⟩); rfl)
    (refine wpD_reads _ rfl rfl rfl ?_; apply Exists.intro; refine ⟨fun w' hK => ?_, ?_, ?_⟩; (obtain ⟨p0, p1, p2, p3, p4⟩ := nd_cells hK; go_wp2; exact ⟨rfl, rfl, rfl⟩); rfl)
    iterate 1 (refine wpD_pure _ rfl rfl rfl ?_; apply Exists.intro; refine ⟨fun w' => ?_, ?_, ?_⟩; (go_wp2; exact ⟨rfl, rfl, rfl⟩); rfl)
    (refine wpD_reads _ rfl rfl rfl ?_; apply Exists.intro; refine ⟨fun w' hK => ?_, ?_, ?_⟩; (have p0 := kc2.out _ _ hK.p9; unfold ptr at p0; go_wp2; exact ⟨rfl, rfl, rfl⟩); rfl)
    refine wpD_does (by decide) rfl rfl (fun Nx hNx w' hK => ?_)
    go_wp2_with fail
    refine ⟨rfl, (fun x => sat E x _), hK.alloc (.cells #[ptr kz.1] 55), fun _ x hx => hx.drop, hNx _ _ ?_⟩
    generalize w'.heap.size = b5 at *
    clear hK hNx
    refine wpD_does (by decide) rfl rfl (fun Nx hNx w' hK => ?_)
    obtain ⟨i0, el⟩ := elNode
    have hfy : firsts Try.prog w' 1 1 (.slice (some ⟨b5, 0, none⟩) 1 1) [ptr kz.1] := by
      refine firsts_some rfl fun j x hj => ?_
      rw [add_lit, cell_of_block hK.block]
      simpa using hj
    obtain ⟨v', w8, hr6, hs6, _, hsz6, _, _⟩ := append_row el 62 (kids_row hK.p9 hla.out) (some ⟨b5, 0, none⟩) 1 1 _ rfl hfy (fun u hu => by simp at hu; subst hu; rfl) (by unfold maxLen; omega) (by omega)
    have hs7 := row_kids (ps := (joinT ta m z).kl.map (·.1)) hs6 (by rw [joinT, of_kl, hkz'.out]; simp) (by rw [joinT, of_kl, hkz'.out]; simp [hka'.out])
    obtain ⟨g7, c7, rfl, _⟩ := row_some hs6 (by omega)
    generalize na + 1 + 1 = na2 at *
    replace hr6 := Lib.hid hr6
    clear hs6 hfy
    go_wp2_with (at_builtin; refine Lib.wpList_append_run _ rfl _ _ _ _ rfl _ _ rfl rfl _ _ hr6.out ?_)
    refine ⟨rfl, (fun x => sat E x _), hs7, fun h => (by cases h), hNx _ _ ?_⟩
    clear hs7 hK hNx hr6 hsz6
    iterate 2 (refine wpD_pure _ rfl rfl rfl ?_; apply Exists.intro; refine ⟨fun w' => ?_, ?_, ?_⟩; (go_wp2; exact ⟨rfl, rfl, rfl⟩); rfl)
    refine wpD_does (by decide) rfl rfl (fun Nx hNx w' hK => ?_)
    obtain ⟨p0, p1, p2, p3, p4⟩ := nd_cells hK.p6
    have hs9 := (nd_set1 (.slice (some ⟨g7, 0, none⟩) na2 c7) hK.p6).p3.drop
    go_wp2_with fail
    refine ⟨rfl, (fun x => sat E x _), hs9, fun h => (by cases h), hNx _ _ ?_⟩
    clear hs9 hK hNx p0 p1 p2 p3 p4
    refine wpD_nil (fun w7 hU => ?_)
    -- nd qa * (kids va' * (nd qb * (ents vb' * (ents ve * (ents v' * (nd p * (kids vk * (kids vkb * Z))))))))
    obtain ⟨p0, p1, p2, p3, p4⟩ := nd_cells hU.p3
    have hcall := delNode E _ _ _ (nb + 2) (((z.kl ++ tb.kl).map (·.1)).map ptr) 0 1 (by omega) (by omega) (by omega) (kids_row hU.p9 hlb.out) (ptrs_one _)
    replace hcall := Lib.hid hcall
    go_wp2_with fail
    refine hcall.out.mono ?_
    rintro e w9 ⟨v', rfl, hnn, hs4⟩
    have hs5 := row_kids (ps := tb.kl.map (·.1)) hs4 (by rw [hkz'.out]; simp) (by simp [hkb'.out])
    obtain ⟨g9, c9, rfl, _⟩ := row_some2 hs4 hnn
    generalize nb + 2 - (1 - 0) = nb9 at *
    clear hcall hs4 hnn p0 p1 p2 p3 p4 hU
    obtain ⟨p0, p1, p2, p3, p4⟩ := nd_cells hs5.p4
    have hs1 := nd_set1 (.slice (some ⟨g9, 0, none⟩) nb9 c9) hs5.p4
    have hfin := shut_two (ta := joinT ta m z) (tb := tb) (A := A) (p := p) (qa := qa) (qb := qb) (ve := .slice (some ⟨g, 0, none⟩) Ne cap) (vk := .slice (some ⟨gk, 0, none⟩) Nk ck) (va := .slice (some ⟨g6, 0, none⟩) na1 c6) (vb := .slice (some ⟨g5, 0, none⟩) nb5 c5) (vka := .slice (some ⟨g7, 0, none⟩) na2 c7) (vkb := .slice (some ⟨g9, 0, none⟩) nb9 c9) (es := ea ++ y :: eb) (ps := ka ++ qa :: qb :: kb) (hs1.to (by rw [nodesK_joinT, show (joinT ta m z).es = ta.es ++ [m] by rw [joinT, of_es, hz.out]]; ac_rfl)) (fun h => by cases h) (fun h => by cases h)
    have hR' := hR.out (.tuple #[]) _ ⟨rfl, _, _, hfin⟩
    clear hR hfin hs1 hs5
    go_wp2_with fail
    exact bodyPost_end (v := .tuple #[]) (by simp [results, Try.results63]) rfl hR'
end Go.Proofs.Ytmibiaakppkmmaa
