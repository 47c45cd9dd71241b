/- What 'ready' does to a node, in plain words. -/
import Derived.Test.YtmibiaakppkmmaaLast
namespace Go.Proofs.Ytmibiaakppkmmaa
open Go.RowKit Go.Sep
set_option linter.unusedVariables false
set_option linter.unusedSimpArgs false

abbrev flats (d : Nat) (ks : List (Nat × T d)) : List (List Ent) := ks.map fun k => flat d k.2

/-- a kid that has an entry more than it must, where one stood -/
structure Rdy {d : Nat} (ea eb : List Ent) (ka : List (Nat × T d)) (tq : T d) (kb : List (Nat × T d)) (ea' eb' : List Ent) (ka' : List (Nat × T d)) (tq' : T d) (kb' : List (Nat × T d)) : Prop where
  la : ka'.length = ea'.length
  lb : kb'.length = eb'.length
  big : 4 ≤ tq'.es.length
  row : ∃ z1 z2, heads (flats d ka) ea = heads (flats d ka') ea' ++ z1 ∧ tails eb (flats d kb) = z2 ++ tails eb' (flats d kb') ∧ flat d tq' = z1 ++ (flat d tq ++ z2)
  ka : ∀ k ∈ ka', okT k.2
  kq : okT tq'
  kb : ∀ k ∈ kb', okT k.2
  le : (ea' ++ eb').length ≤ (ea ++ eb).length
  ge : (ea ++ eb).length ≤ (ea' ++ eb').length + 1

section
variable {d : Nat} {ea eb : List Ent} {ka kb : List (Nat × T d)} {tq t0 t1 a z b : T d} {q0 q1 : Nat} {m y : Ent}

theorem rdy_same (hl : ka.length = ea.length) (hl2 : kb.length = eb.length) (h4 : 4 ≤ tq.es.length) (oa : ∀ k ∈ ka, okT k.2) (oq : okT tq) (ob : ∀ k ∈ kb, okT k.2) : Rdy ea eb ka tq kb ea eb ka tq kb :=
  ⟨hl, hl2, h4, ⟨[], [], by simp, by simp, by simp⟩, oa, oq, ob, Nat.le_refl _, by omega⟩

/-- from the left one -/
theorem rdy_right (hl : ka.length = ea.length) (hl2 : kb.length = eb.length) (ht0 : t0 = joinT a y z) (hz : z.es = []) (h0 : 3 < t0.es.length) (hq : tq.es.length = 3) (oka : ok d a) (okz : ok d z)
    (oa : ∀ k ∈ ka, okT k.2) (o0 : okT t0) (oq : okT tq) (ob : ∀ k ∈ kb, okT k.2) : Rdy (ea ++ [m]) eb (ka ++ [(q0, t0)]) tq kb (ea ++ [y]) eb (ka ++ [(q0, a)]) (joinT z m tq) kb := by
  have hes : t0.es = a.es ++ [y] := by rw [ht0, joinT, of_es, hz]
  have hes2 : (joinT z m tq).es = m :: tq.es := by rw [joinT, of_es, hz]; rfl
  have hla : t0.es.length = a.es.length + 1 := by rw [hes]; simp
  refine ⟨by simp [hl], hl2, by rw [hes2]; simp [hq], ⟨flat d z ++ [m], [], ?_, by simp, ?_⟩, ?_, ?_, ob, by simp, by simp⟩
  · simp only [flats, List.map_append, List.map_cons, List.map_nil]
    rw [heads_snoc _ _ _ _ (by simpa using hl), heads_snoc _ _ _ _ (by simpa using hl), ht0, flat_join oka okz]
    simp
  · rw [flat_join okz oq.2.2]; simp
  · intro k hk
    rcases List.mem_append.1 hk with hk | hk
    · exact oa k hk
    · rw [List.mem_singleton.1 hk]; exact ⟨by simp only; omega, by have := o0.2.1; simp only; omega, oka⟩
  · exact ⟨by rw [hes2]; simp [hq], by rw [hes2]; simp [hq], ok_join okz oq.2.2⟩

/-- from the right one -/
theorem rdy_left (hl : ka.length = ea.length) (hl2 : kb.length = eb.length) (ht1 : t1 = joinT z y b) (hz : z.es = []) (h1 : 3 < t1.es.length) (hq : tq.es.length = 3) (okb : ok d b) (okz : ok d z)
    (oa : ∀ k ∈ ka, okT k.2) (o1 : okT t1) (oq : okT tq) (ob : ∀ k ∈ kb, okT k.2) : Rdy ea (m :: eb) ka tq ((q1, t1) :: kb) ea (y :: eb) ka (joinT tq m z) ((q1, b) :: kb) := by
  have hes : t1.es = y :: b.es := by rw [ht1, joinT, of_es, hz]; rfl
  have hes2 : (joinT tq m z).es = tq.es ++ [m] := by rw [joinT, of_es, hz]
  have hlb : t1.es.length = b.es.length + 1 := by rw [hes]; simp
  refine ⟨hl, by simp [hl2], by rw [hes2]; simp [hq], ⟨[], m :: flat d z, by simp, ?_, ?_⟩, oa, ?_, ?_, by simp, by simp⟩
  · simp only [flats, List.map_cons, tails]
    rw [ht1, flat_join okz okb]
    simp
  · rw [flat_join oq.2.2 okz]; simp
  · exact ⟨by rw [hes2]; simp [hq], by rw [hes2]; simp [hq], ok_join oq.2.2 okz⟩
  · intro k hk
    rcases List.mem_cons.1 hk with rfl | hk
    · exact ⟨by simp only; omega, by have := o1.2.1; simp only; omega, okb⟩
    · exact ob k hk

/-- joined with the left one -/
theorem rdy_join0 (hl : ka.length = ea.length) (hl2 : kb.length = eb.length) (h0 : t0.es.length = 3) (hq : tq.es.length = 3)
    (oa : ∀ k ∈ ka, okT k.2) (o0 : okT t0) (oq : okT tq) (ob : ∀ k ∈ kb, okT k.2) : Rdy (ea ++ [m]) eb (ka ++ [(q0, t0)]) tq kb ea eb ka (joinT t0 m tq) kb := by
  have hes2 : (joinT t0 m tq).es.length = 7 := by rw [joinT, of_es]; simp [h0, hq]
  refine ⟨hl, hl2, by omega, ⟨flat d t0 ++ [m], [], ?_, by simp, ?_⟩, oa, ⟨by omega, by omega, ok_join o0.2.2 oq.2.2⟩, ob, by simp <;> omega, by simp <;> omega⟩
  · simp only [flats, List.map_append, List.map_cons, List.map_nil]
    rw [heads_snoc _ _ _ _ (by simpa using hl)]
  · rw [flat_join o0.2.2 oq.2.2]; simp

/-- joined with the right one -/
theorem rdy_join1 (hl : ka.length = ea.length) (hl2 : kb.length = eb.length) (h1 : t1.es.length = 3) (hq : tq.es.length = 3)
    (oa : ∀ k ∈ ka, okT k.2) (o1 : okT t1) (oq : okT tq) (ob : ∀ k ∈ kb, okT k.2) : Rdy ea (m :: eb) ka tq ((q1, t1) :: kb) ea eb ka (joinT tq m t1) kb := by
  have hes2 : (joinT tq m t1).es.length = 7 := by rw [joinT, of_es]; simp [h1, hq]
  refine ⟨hl, hl2, by omega, ⟨[], m :: flat d t1, by simp, ?_, ?_⟩, oa, ⟨by omega, by omega, ok_join oq.2.2 o1.2.2⟩, ob, by simp, by simp <;> omega⟩
  · simp only [flats, List.map_cons, tails]
    simp
  · rw [flat_join oq.2.2 o1.2.2]; simp

end

theorem rdy_ok {d : Nat} {ea eb : List Ent} {ka : List (Nat × T d)} {tq : T d} {kb : List (Nat × T d)} {ea' eb' : List Ent} {ka' : List (Nat × T d)} {tq' : T d} {kb' : List (Nat × T d)} {q' : Nat} (h : Rdy ea eb ka tq kb ea' eb' ka' tq' kb') : ok (d + 1) (mk (ea' ++ eb') (ka' ++ (q', tq') :: kb')) := by
  refine (ok_mk _ _).2 ⟨by have := h.la; have := h.lb; simp; omega, fun k hk => ?_⟩
  rcases List.mem_append.1 hk with hk | hk
  · exact h.ka k hk
  · rcases List.mem_cons.1 hk with rfl | hk
    · exact h.kq
    · exact h.kb k hk

theorem rdy_flat {d : Nat} {ea eb : List Ent} {ka : List (Nat × T d)} {tq : T d} {kb : List (Nat × T d)} {ea' eb' : List Ent} {ka' : List (Nat × T d)} {tq' : T d} {kb' : List (Nat × T d)} {q q' : Nat} (h : Rdy ea eb ka tq kb ea' eb' ka' tq' kb') (hl : ka.length = ea.length) :
    flat (d + 1) (mk (ea' ++ eb') (ka' ++ (q', tq') :: kb')) = flat (d + 1) (mk (ea ++ eb) (ka ++ (q, tq) :: kb)) := by
  obtain ⟨z1, z2, e1, e2, e3⟩ := h.row
  rw [flat_split h.la, flat_split hl]
  show heads (flats d ka') ea' ++ (flat d tq' ++ tails eb' (flats d kb')) = heads (flats d ka) ea ++ (flat d tq ++ tails eb (flats d kb))
  rw [e1, e2, e3]
  simp

/-- two kids of a node, opened -/
theorem open_two {E : Env} {w : World} {A : Asn} {d p qa qb : Nat} {es : List Ent} {ka kb : List (Nat × T d)} {ta tb : T d} :
    sat E w (node (d + 1) p (mk es (ka ++ (qa, ta) :: (qb, tb) :: kb)) * A) ↔ ∃ ve vk, sat E w (nd p ve vk * (ents ve es * (kids vk (ka.map (·.1) ++ qa :: qb :: kb.map (·.1)) * (node d qa ta * (node d qb tb * (nodes d ka * (nodes d kb * A))))))) := by
  rw [open_node]
  refine exists_congr fun ve => exists_congr fun vk => ?_
  have : nd p ve vk * (ents ve es * (kids vk (ka.map (·.1) ++ qa :: ((qb, tb) :: kb).map (·.1)) * (node d qa ta * (nodes d ka * (nodes d ((qb, tb) :: kb) * A))))) = nd p ve vk * (ents ve es * (kids vk (ka.map (·.1) ++ qa :: qb :: kb.map (·.1)) * (node d qa ta * (node d qb tb * (nodes d ka * (nodes d kb * A)))))) := by
    rw [nodes_cons, List.map_cons]
    ac_rfl
  rw [this]

/-- how many entries a node has, in memory -/
theorem node_len {E : Env} {w : World} {A : Asn} {d q : Nat} {t : T d} (hs : sat E w (node d q t * A)) (h1 : 1 ≤ t.es.length) : ∃ g c, q < w.heap.size ∧ w.cell? ⟨q, 0, none⟩ = some (.slice (some ⟨g, 0, none⟩) t.es.length c) := by
  obtain ⟨ve, vk, hs⟩ := sat_node.1 hs
  obtain ⟨g, c, rfl, _⟩ := row_some hs.p2 (by omega)
  obtain ⟨p0, p1, _⟩ := nd_cells hs
  exact ⟨g, c, p0, p1⟩

end Go.Proofs.Ytmibiaakppkmmaa
