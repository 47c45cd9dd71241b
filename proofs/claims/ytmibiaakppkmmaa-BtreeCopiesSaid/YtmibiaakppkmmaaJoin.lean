/- Two kids are joined, with the entry between them. -/
import Derived.Test.YtmibiaakppkmmaaKl
namespace Go.Proofs.Ytmibiaakppkmmaa
open Go.RowKit Go.Sep
set_option linter.unusedVariables false
set_option linter.unusedSimpArgs false

/-- a piece of an owned slice, read -/
theorem row_piece {E : Env} {w : World} {A : Asn} {e sz g n cap : Nat} {xs : List Value} (o m c oo : Nat) (ho : oo = o * sz) (hm : o + m ≤ n) (h : sat E w (row e sz (.slice (some ⟨g, 0, none⟩) n cap) n xs * A)) :
    firsts Try.prog w sz m (.slice (some ⟨g, oo, none⟩) m c) ((xs.drop (o * sz)).take (m * sz)) := by
  obtain ⟨hl, ⟨hb, _⟩ | ⟨g', cap', cur, hv, c1, c2, c3, c4, hp⟩⟩ := h.row
  · cases hb
  injection hv with e1 _ e3
  injection e1 with e1
  injection e1 with e1
  subst e1; subst e3; subst ho
  have hmul := Nat.mul_le_mul_right sz hm
  rw [Nat.add_mul] at hmul
  refine firsts_some (by rw [List.length_take, List.length_drop, hl]; omega) fun j x hj => ?_
  rw [add_lit]
  refine row_cell hp.block c4 _ _ ?_
  rw [List.getElem?_take] at hj
  split at hj
  · rw [List.getElem?_drop] at hj; exact hj
  · cases hj

theorem ents_get (ea eb : List Ent) (m : Ent) : ((entCells (ea ++ m :: eb)).drop (ea.length * 2)).take (1 * 2) = [m.k, .int .i64 m.id] := by
  rw [entCells_drop]
  simp [entCells]

theorem ents_del (ea eb : List Ent) (m : Ent) : (entCells (ea ++ m :: eb)).take (ea.length * 2) ++ (entCells (ea ++ m :: eb)).drop ((ea.length + 1) * 2) = entCells (ea ++ eb) := by
  have h1 : (ea ++ m :: eb).drop (ea.length + 1) = eb := by
    simp
  rw [entCells_take, entCells_drop, entCells_append, h1]
  simp

theorem kids_slice {E : Env} {w : World} {A : Asn} {v : Value} {ps : List Nat} (h : sat E w (kids v ps * A)) : ∃ a c, v = .slice a ps.length c := by
  obtain ⟨_, ⟨rfl, h2, _⟩ | ⟨g, cap, cur, rfl, _⟩⟩ := Go.Sep.sat.row h
  · exact ⟨none, 0, by rw [h2]⟩
  · exact ⟨_, _, rfl⟩

theorem row_some2 {E : Env} {w : World} {A : Asn} {e sz n : Nat} {v : Value} {xs : List Value} (h : sat E w (row e sz v n xs * A)) (hv : v ≠ .slice none 0 0) : ∃ g cap, v = .slice (some ⟨g, 0, none⟩) n cap ∧ n ≤ cap := by
  obtain ⟨hl, ⟨h0, _⟩ | ⟨g', cap', cur, hv, c1, c2, _⟩⟩ := h.row
  · exact absurd h0 hv
  · exact ⟨g', cap', hv, c1⟩

theorem part_row {E : Env} {A : Asn} {e sz n : Nat} {v : Value} {xs : List Value} (hn : xs.length = n * sz) (h1 : ∀ u ∈ xs, u.oneCell' = true) (hv : ∃ a c, v = .slice a n c) (h : ∀ w', sat E w' A → ∃ X, sat E w' (row e sz v n xs * X)) : part (P := Try.prog) E A sz (v, n, xs) := by
  obtain ⟨a, c, rfl⟩ := hv
  exact ⟨n, a, c, rfl, rfl, hn, h1, fun w' hw => (h w' hw).choose_spec.firsts_row⟩

theorem kids_del (ka kb : List Nat) (qa qb : Nat) (n : Nat) (hn : ka.length = n) : ((ka ++ qa :: qb :: kb).map ptr).take ((n + 1) * 1) ++ ((ka ++ qa :: qb :: kb).map ptr).drop ((n + 2) * 1) = (ka ++ qa :: kb).map ptr := by
  subst hn
  rw [Nat.mul_one, Nat.mul_one]
  have h1 : (ka ++ qa :: qb :: kb).take (ka.length + 1) = ka ++ [qa] := by
    rw [show ka ++ qa :: qb :: kb = (ka ++ [qa]) ++ (qb :: kb) by simp, show ka.length + 1 = (ka ++ [qa]).length by simp]
    exact List.take_left
  have h2 : (ka ++ qa :: qb :: kb).drop (ka.length + 2) = kb := by
    rw [show ka ++ qa :: qb :: kb = (ka ++ [qa, qb]) ++ kb by simp, show ka.length + 2 = (ka ++ [qa, qb]).length by simp]
    exact List.drop_left
  rw [← List.map_take, ← List.map_drop, h1, h2]
  simp

theorem nodesK_joinT {d : Nat} {a b : T d} {m : Ent} : nodesK d (joinT a m b).kl = nodesK d a.kl * nodesK d b.kl := by rw [joinT, of_kl, nodesK_append]

set_option maxRecDepth 100000 in
set_option maxHeartbeats 4000000 in
theorem join (d : Nat) (E : Env) (w : World) (A : Asn) (p qa qb : Nat) (ve vk : Value) (ea eb : List Ent) (m : Ent) (ka kb : List Nat) (ta tb : T d)
    (hs : sat E w (nd p ve vk * (ents ve (ea ++ m :: eb) * (kids vk (ka ++ qa :: qb :: kb) * (node d qa ta * (node d qb tb * A))))))
    (hl : ka.length = ea.length) (ha1 : 1 ≤ ta.es.length) (hb1 : 1 ≤ tb.es.length) (ha7 : ta.es.length ≤ 100) (hb7 : tb.es.length ≤ 100) (oka : ok d ta) (okb : ok d tb) (hga : Env.goods E ta.es) (hgb : Env.goods E tb.es)
    (hg : Env.goods E (ea ++ m :: eb)) (hn : kb.length ≤ 1000) (hn' : ea.length + eb.length ≤ 1000) :
    Calls Try.prog 64 #[ptr p, .int .i64 ea.length] w (Ret fun r w' => r = .tuple #[] ∧ ∃ ve' vk', sat E w' (nd p ve' vk' * (ents ve' (ea ++ eb) * (kids vk' (ka ++ qa :: kb) * (node d qa (joinT ta m tb) * A))))) := by
  refine ret_hide fun R hR => ?_
  obtain ⟨va, vka, hva, hs⟩ := sat_nodeK.1 hs.p4
  obtain ⟨vb, vkb, hvb, hs⟩ := sat_nodeK.1 hs.p8
  have hU : sat E w (nd p ve vk * (ents ve (ea ++ m :: eb) * (kids vk (ka ++ qa :: qb :: kb) * (nd qa va vka * (ents va ta.es * (kids vka (ta.kl.map (·.1)) * (nd qb vb vkb * (ents vb tb.es * (kids vkb (tb.kl.map (·.1)) * (nodesK d ta.kl * (nodesK d tb.kl * A))))))))))) := hs.to (by ac_rfl)
  clear hs
  have hka := ok_kl oka
  have hkb := ok_kl okb
  obtain ⟨g, cap, rfl, hcap, _⟩ := row_some hU.p2 (by simp)
  obtain ⟨gk, ck, rfl, hck, _⟩ := row_some hU.p3 (by simp)
  obtain ⟨ga, ca, rfl, hca, _⟩ := row_some hU.p5 (by omega)
  obtain ⟨gb, cb, rfl, hcb, _⟩ := row_some hU.p8 (by omega)
  obtain ⟨aka, cka, rfl⟩ := kids_slice hU.p6
  obtain ⟨akb, ckb, rfl⟩ := kids_slice hU.p9
  generalize hla : (ta.kl.map (·.1)).length = la at *
  generalize hlb : (tb.kl.map (·.1)).length = lb at *
  have hla2 : la = kn d ta.es.length := by rw [← hla, List.length_map, hka]
  have hlb2 : lb = kn d tb.es.length := by rw [← hlb, List.length_map, hkb]
  have hla3 : la ≤ 200 := by rw [hla2]; unfold kn; split <;> omega
  have hlb3 : lb ≤ 200 := by rw [hlb2]; unfold kn; split <;> omega
  have hlz : d = 0 → la + lb = 0 := by rintro rfl; rw [hla2, hlb2]; rfl
  replace hla := Lib.hid hla
  replace hlb := Lib.hid hlb
  replace hlz := Lib.hid hlz
  clear hla2 hlb2
  have hlen : (ka ++ qa :: qb :: kb).length = ea.length + kb.length + 2 := by simp; omega
  have hlen' : (ea ++ m :: eb).length = ea.length + eb.length + 1 := by simp; omega
  have hgm : E.vals m.k m.l := hg m (by simp)
  generalize hNk : (ka ++ qa :: qb :: kb).length = Nk at *
  generalize hNe : (ea ++ m :: eb).length = Ne at *
  have hNk2 : ea.length + 2 ≤ Nk := by omega
  have hNe2 : ea.length + 1 ≤ Ne := by omega
  have hNk3 : Nk ≤ 5000 := by omega
  have hNe3 : Ne ≤ 5000 := by omega
  replace hlen := Lib.hid hlen
  replace hlen' := Lib.hid hlen'
  replace hNk := Lib.hid hNk
  replace hNe := Lib.hid hNe
  replace hl := Lib.hid hl
  replace hka := Lib.hid hka
  replace hkb := Lib.hid hkb
  replace hva := Lib.hid hva
  replace hvb := Lib.hid hvb
  have ha1' : 0 < ta.es.length := by omega
  generalize hna : ta.es.length = na at *
  generalize hnb : tb.es.length = nb at *
  replace hna := Lib.hid hna
  replace hnb := Lib.hid hnb
  have kc1 : ∀ W X, sat E W (kids (.slice (some ⟨gk, 0, none⟩) Nk ck) (ka ++ qa :: qb :: kb) * X) → W.cell? ⟨gk, ea.length, none⟩ = some (ptr qa) ∧ W.cell? ⟨gk, ea.length + 1, none⟩ = some (ptr qb) := by
    intro W X h
    have h1 := kids_cell h ea.length (by rw [hNk.out]; omega)
    have h2 := kids_cell h (ea.length + 1) (by rw [hNk.out]; omega)
    refine ⟨h1.trans ?_, h2.trans ?_⟩
    · simp [← hl.out]
    · rw [List.getElem_append_right (by rw [hl.out]; omega)]; simp [hl.out]
  replace kc1 := Lib.hid kc1
  unfold ptr
  go_enter Try.func64, Try.ntmps64
  go_wp2_with fail
  refine wp_draw_lit [(0,3),(1,3),(2,3),(3,0),(4,3),(5,3),(6,0),(7,3),(8,3),(9,3),(10,0),(11,3),(12,3),(13,3),(14,0),(15,3),(16,3)] (sat E · _) (by kernel_rfl) (by kernel_rfl) rfl hU.drew ?_
  clear hU
  iterate 3 (refine wpD_pure _ rfl rfl rfl ?_; apply Exists.intro; refine ⟨fun w' => ?_, ?_, ?_⟩; (go_wp2; exact ⟨rfl, rfl, rfl⟩); rfl)
  (refine wpD_reads _ rfl rfl rfl ?_; apply Exists.intro; refine ⟨fun w' hK => ?_, ?_, ?_⟩; (obtain ⟨p0, p1, p2, p3, p4⟩ := nd_cells hK; go_wp2; exact ⟨rfl, rfl, rfl⟩); rfl)
  iterate 2 (refine wpD_pure _ rfl rfl rfl ?_; apply Exists.intro; refine ⟨fun w' => ?_, ?_, ?_⟩; (go_wp2; exact ⟨rfl, rfl, rfl⟩); rfl)
  (refine wpD_reads _ rfl rfl rfl ?_; apply Exists.intro; refine ⟨fun w' hK => ?_, ?_, ?_⟩; (obtain ⟨p0, p1⟩ := kc1.out _ _ hK.p3; unfold ptr at p0 p1; go_wp2; exact ⟨rfl, rfl, rfl⟩); rfl)
  iterate 3 (refine wpD_pure _ rfl rfl rfl ?_; apply Exists.intro; refine ⟨fun w' => ?_, ?_, ?_⟩; (go_wp2; exact ⟨rfl, rfl, rfl⟩); rfl)
  (refine wpD_reads _ rfl rfl rfl ?_; apply Exists.intro; refine ⟨fun w' hK => ?_, ?_, ?_⟩; (obtain ⟨p0, p1, p2, p3, p4⟩ := nd_cells hK; go_wp2; exact ⟨rfl, rfl, rfl⟩); rfl)
  iterate 3 (refine wpD_pure _ rfl rfl rfl ?_; apply Exists.intro; refine ⟨fun w' => ?_, ?_, ?_⟩; (go_wp2; exact ⟨rfl, rfl, rfl⟩); rfl)
  (refine wpD_reads _ rfl rfl rfl ?_; apply Exists.intro; refine ⟨fun w' hK => ?_, ?_, ?_⟩; (obtain ⟨p0, p1⟩ := kc1.out _ _ hK.p3; unfold ptr at p0 p1; go_wp2; exact ⟨rfl, rfl, rfl⟩); rfl)
  iterate 2 (refine wpD_pure _ rfl rfl rfl ?_; apply Exists.intro; refine ⟨fun w' => ?_, ?_, ?_⟩; (go_wp2; exact ⟨rfl, rfl, rfl⟩); rfl)
  refine wpD_nil (fun w1 hU => ?_)
  go_wp2_with fail
  refine wp_draw_lit [(0,3),(1,3),(2,3),(3,3),(4,0),(5,3),(6,3),(7,3),(8,0),(9,3),(10,3),(11,3),(12,3),(13,3),(14,3),(15,3),(16,0),(17,1),(18,2),(19,3),(20,3),(21,2)] (sat E · _) (by kernel_rfl) (by kernel_rfl) rfl hU.drew ?_
  clear hU
  iterate 4 (refine wpD_pure _ rfl rfl rfl ?_; apply Exists.intro; refine ⟨fun w' => ?_, ?_, ?_⟩; (go_wp2; exact ⟨rfl, rfl, rfl⟩); rfl)
  (refine wpD_reads _ rfl rfl rfl ?_; apply Exists.intro; refine ⟨fun w' hK => ?_, ?_, ?_⟩; (obtain ⟨p0, p1, p2, p3, p4⟩ := nd_cells hK.p4; go_wp2; exact ⟨rfl, rfl, rfl⟩); rfl)
  iterate 3 (refine wpD_pure _ rfl rfl rfl ?_; apply Exists.intro; refine ⟨fun w' => ?_, ?_, ?_⟩; (go_wp2; exact ⟨rfl, rfl, rfl⟩); rfl)
  (refine wpD_reads _ rfl rfl rfl ?_; apply Exists.intro; refine ⟨fun w' hK => ?_, ?_, ?_⟩; (obtain ⟨p0, p1, p2, p3, p4⟩ := nd_cells hK; go_wp2; exact ⟨rfl, rfl, rfl⟩); rfl)
  have hcapl : ea.length < cap := by omega
  iterate 7 (refine wpD_pure _ rfl rfl rfl ?_; apply Exists.intro; refine ⟨fun w' => ?_, ?_, ?_⟩; (go_wp2; exact ⟨rfl, rfl, rfl⟩); rfl)
  (refine wpD_reads _ rfl rfl rfl ?_; apply Exists.intro; refine ⟨fun w' hK => ?_, ?_, ?_⟩; (obtain ⟨p0, p1, p2, p3, p4⟩ := nd_cells hK.p7; go_wp2; exact ⟨rfl, rfl, rfl⟩); rfl)
  refine wpD_does (by decide) rfl rfl (fun Nx hNx w' hK => ?_)
  go_wp2_with fail
  refine ⟨rfl, (fun x => sat E x _), hK.alloc (.cells #[.slice (some ⟨ga, 0, none⟩) na ca, .slice (some ⟨g, ea.length * 2, none⟩) 1 (cap - ea.length), .slice (some ⟨gb, 0, none⟩) nb cb] 29), fun _ x hx => hx.drop, hNx _ _ ?_⟩
  generalize w'.heap.size = b at *
  clear hK hNx
  refine wpD_does (by decide) rfl rfl (fun Nx hNx w' hK => ?_)
  go_wp2_with fail
  refine (concatEnt E _ _ b [(.slice (some ⟨ga, 0, none⟩) na ca, na, entCells ta.es), (.slice (some ⟨g, ea.length * 2, none⟩) 1 (cap - ea.length), 1, [m.k, .int .i64 m.id]), (.slice (some ⟨gb, 0, none⟩) nb cb, nb, entCells tb.es)] hK ?hS (by simp [total]; omega) (by simp)).mono ?_
  case hS =>
    intro j hj
    match j, hj with
    | 0, _ => exact part_row (by rw [entCells_length, hna.out]) (entCells_one hga) ⟨_, _, rfl⟩ fun w' h => ⟨_, ents_row h.p5 hna.out⟩
    | 1, _ =>
      refine ⟨1, _, _, rfl, rfl, rfl, fun u hu => ?_, fun w' h => ?_⟩
      · simp at hu; rcases hu with rfl | rfl; exact vals_one hgm; rfl
      · have := row_piece (sz := 2) ea.length 1 (cap - ea.length) (ea.length * 2) rfl (by omega) (ents_row h.p2 hNe.out)
        rw [ents_get] at this
        exact this
    | 2, _ => exact part_row (by rw [entCells_length, hnb.out]) (entCells_one hgb) ⟨_, _, rfl⟩ fun w' h => ⟨_, ents_row h.p8 hnb.out⟩
  rintro e w6 ⟨v', rfl, _, hs6⟩
  have hs7 := row_ents (es := ta.es ++ m :: tb.es) hs6 (by simp [joined, entCells_append, entCells]) (by simp [total]; rw [hna.out, hnb.out]; omega)
  obtain ⟨g6, c6, rfl, _, _⟩ := row_some hs6 (by simp [total])
  generalize total _ = nt at *
  clear hs6
  go_wp2_with fail
  refine ⟨rfl, (fun x => sat E x _), hs7, fun h => (by cases h), hNx _ _ ?_⟩
  clear hs7 hK hNx
  iterate 2 (refine wpD_pure _ rfl rfl rfl ?_; apply Exists.intro; refine ⟨fun w' => ?_, ?_, ?_⟩; (go_wp2; exact ⟨rfl, rfl, rfl⟩); rfl)
  refine wpD_does (by decide) rfl rfl (fun Nx hNx w' hK => ?_)
  obtain ⟨p0, p1, p2, p3, p4⟩ := nd_cells hK.p5
  have hs9 := (nd_set0 (.slice (some ⟨g6, 0, none⟩) nt c6) hK.p5).p6.drop.p8.drop
  go_wp2_with fail
  refine ⟨rfl, (fun x => sat E x _), hs9, fun h => (by cases h), hNx _ _ ?_⟩
  clear hs9 hK hNx p0 p1 p2 p3 p4
  refine wpD_nil (fun w3 hU => ?_)
  go_wp2_with fail
  refine wp_draw_lit [(0,3),(1,3),(2,3),(3,3),(4,0),(5,3),(6,3),(7,3),(8,0),(9,1),(10,2),(11,3),(12,3),(13,2)] (sat E · _) (by kernel_rfl) (by kernel_rfl) rfl hU.drew ?_
  clear hU
  iterate 4 (refine wpD_pure _ rfl rfl rfl ?_; apply Exists.intro; refine ⟨fun w' => ?_, ?_, ?_⟩; (go_wp2; exact ⟨rfl, rfl, rfl⟩); rfl)
  (refine wpD_reads _ rfl rfl rfl ?_; apply Exists.intro; refine ⟨fun w' hK => ?_, ?_, ?_⟩; (obtain ⟨p0, p1, p2, p3, p4⟩ := nd_cells hK; go_wp2; exact ⟨rfl, rfl, rfl⟩); rfl)
  iterate 3 (refine wpD_pure _ rfl rfl rfl ?_; apply Exists.intro; refine ⟨fun w' => ?_, ?_, ?_⟩; (go_wp2; exact ⟨rfl, rfl, rfl⟩); rfl)
  (refine wpD_reads _ rfl rfl rfl ?_; apply Exists.intro; refine ⟨fun w' hK => ?_, ?_, ?_⟩; (obtain ⟨p0, p1, p2, p3, p4⟩ := nd_cells hK.p7; go_wp2; exact ⟨rfl, rfl, rfl⟩); rfl)
  refine wpD_does (by decide) rfl rfl (fun Nx hNx w' hK => ?_)
  go_wp2_with fail
  refine ⟨rfl, (fun x => sat E x _), hK.alloc (.cells #[.slice aka la cka, .slice akb lb ckb] 62), fun _ x hx => hx.drop, hNx _ _ ?_⟩
  generalize w'.heap.size = b2 at *
  clear hK hNx
  refine wpD_does (by decide) rfl rfl (fun Nx hNx w' hK => ?_)
  go_wp2_with fail
  refine (concatNode E _ _ b2 [(.slice aka la cka, la, (ta.kl.map (·.1)).map ptr), (.slice akb lb ckb, lb, (tb.kl.map (·.1)).map ptr)] hK ?hS2 (by simp [total]; omega) (by simp)).mono ?_
  case hS2 =>
    intro j hj
    match j, hj with
    | 0, _ => exact part_row (by rw [List.length_map, hla.out, Nat.mul_one]) (ptrs_one _) ⟨_, _, rfl⟩ fun w' h => ⟨_, kids_row h.p6 hla.out⟩
    | 1, _ => exact part_row (by rw [List.length_map, hlb.out, Nat.mul_one]) (ptrs_one _) ⟨_, _, rfl⟩ fun w' h => ⟨_, kids_row h.p8 hlb.out⟩
  rintro e w6 ⟨v', rfl, hnil, hs6⟩
  have hs7 := row_kids (ps := (joinT ta m tb).kl.map (·.1)) hs6 (by simp [joined, joinT, of_kl]) (by rw [joinT, of_kl, List.map_append, List.length_append, hla.out, hlb.out]; simp [total])
  have hnil' : Hid (d = 0 → v' = .slice none 0 0) := fun h => hnil (by have := hlz.out h; simp [total]; omega)
  obtain ⟨a7, c7, rfl⟩ := kids_slice hs7
  generalize ((joinT ta m tb).kl.map (·.1)).length = nj at *
  clear hs6 hnil
  go_wp2_with fail
  refine ⟨rfl, (fun x => sat E x _), hs7, fun h => (by cases h), hNx _ _ ?_⟩
  clear hs7 hK hNx
  iterate 2 (refine wpD_pure _ rfl rfl rfl ?_; apply Exists.intro; refine ⟨fun w' => ?_, ?_, ?_⟩; (go_wp2; exact ⟨rfl, rfl, rfl⟩); rfl)
  refine wpD_does (by decide) rfl rfl (fun Nx hNx w' hK => ?_)
  obtain ⟨p0, p1, p2, p3, p4⟩ := nd_cells hK.p2
  have hs9 := (nd_set1 (.slice a7 nj c7) hK.p2).p7.drop.p7.drop.p7.drop
  go_wp2_with fail
  refine ⟨rfl, (fun x => sat E x _), hs9, fun h => (by cases h), hNx _ _ ?_⟩
  clear hs9 hK hNx p0 p1 p2 p3 p4
  refine wpD_nil (fun w3 hU => ?_)
  -- nd qa * (kids v' * (ents v' * (nd p * (ents ve * (kids vk * Z)))))
  obtain ⟨p0, p1, p2, p3, p4⟩ := nd_cells hU.p4
  have hcall := delEnt E _ _ _ Ne (entCells (ea ++ m :: eb)) ea.length (ea.length + 1) (by omega) (by omega) (by omega) (ents_row hU.p5 hNe.out) (entCells_one hg)
  rw [show ((ea.length + 1 : Nat) : Int) = (ea.length : Int) + 1 from rfl] at hcall
  replace hcall := Lib.hid hcall
  go_wp2_with fail
  refine hcall.out.mono ?_
  rintro e w4 ⟨v', rfl, hnn, hs4⟩
  have hs5 := row_ents (es := ea ++ eb) hs4 (ents_del ea eb m) (by have := hlen'.out; rw [List.length_append]; omega)
  obtain ⟨g5, c5, rfl, _⟩ := row_some2 hs4 hnn
  generalize Ne - (ea.length + 1 - ea.length) = Ne5 at *
  clear hcall hs4 hnn p0 p1 p2 p3 p4 hU
  -- ents ve' * (nd qa * (kids v' * (ents v' * (nd p * (kids vk * Z)))))
  obtain ⟨p0, p1, p2, p3, p4⟩ := nd_cells hs5.p5
  have hs6 := nd_set0 (.slice (some ⟨g5, 0, none⟩) Ne5 c5) hs5.p5
  -- nd p * (ents ve' * (nd qa * (kids v' * (ents v' * (kids vk * Z)))))
  obtain ⟨q0, q1, q2, q3, q4⟩ := nd_cells hs6
  have hcall := delNode E _ _ _ Nk ((ka ++ qa :: qb :: kb).map ptr) (ea.length + 1) (ea.length + 2) (by omega) (by omega) (by omega) (kids_row hs6.p6 hNk.out) (ptrs_one _)
  rw [show ((ea.length + 1 : Nat) : Int) = (ea.length : Int) + 1 from rfl, show ((ea.length + 2 : Nat) : Int) = (ea.length : Int) + 2 from rfl] at hcall
  replace hcall := Lib.hid hcall
  go_wp2_with fail
  refine hcall.out.mono ?_
  rintro e w7 ⟨v', rfl, hnn, hs7⟩
  have hs8 := row_kids (ps := ka ++ qa :: kb) hs7 (kids_del ka kb qa qb _ hl.out) (by have := hlen.out; have := hl.out; simp; omega)
  obtain ⟨g8, c8, rfl, _⟩ := row_some2 hs7 hnn
  generalize Nk - (ea.length + 2 - (ea.length + 1)) = Nk8 at *
  clear hcall hs7 hnn p0 p1 p2 p3 p4 q0 q1 q2 q3 q4 hs5 hs6
  -- kids vk' * (nd p * (ents ve' * (nd qa * (kids v' * (ents v' * Z)))))
  obtain ⟨p0, p1, p2, p3, p4⟩ := nd_cells hs8.p2
  have hs9 := nd_set1 (.slice (some ⟨g8, 0, none⟩) Nk8 c8) hs8.p2
  have hfin : sat E _ (node d qa (joinT ta m tb) * (nd p (.slice (some ⟨g5, 0, none⟩) Ne5 c5) (.slice (some ⟨g8, 0, none⟩) Nk8 c8) * (ents (.slice (some ⟨g5, 0, none⟩) Ne5 c5) (ea ++ eb) * (kids (.slice (some ⟨g8, 0, none⟩) Nk8 c8) (ka ++ qa :: kb) * A)))) :=
    sat_nodeK.2 ⟨_, _, hnil'.out, by
      rw [nodesK_joinT, show (joinT ta m tb).es = ta.es ++ m :: tb.es from of_es _ _]
      exact hs9.to (by ac_rfl)⟩
  have hR' := hR.out (.tuple #[]) _ ⟨rfl, _, _, hfin.r4⟩
  clear hR hs8 hs9 hfin
  go_wp2_with fail
  exact bodyPost_end (v := .tuple #[]) (by simp [results, Try.results64]) rfl hR'
end Go.Proofs.Ytmibiaakppkmmaa
