/- What taking an entry away does to a node, in plain words. -/
import Derived.Test.YtmibiaakppkmmaaReady
namespace Go.Proofs.Ytmibiaakppkmmaa
open Go.RowKit Go.Sep
set_option linter.unusedVariables false
set_option linter.unusedSimpArgs false

/-- an entry was taken away under a node -/
def Dels (d : Nat) (n : Nat) (f : List Ent) (e : Ent) (t' : T d) : Prop :=
  ∃ a x b, f = a ++ x :: b ∧ x.kv = e.kv ∧ flat d t' = a ++ b ∧ ok d t' ∧ t'.es.length ≤ 7 ∧ n ≤ t'.es.length + 1

theorem not_lt_kv {x z : Ent} (h : x.kv = z.kv) : ¬ lt x z := by
  intro hl
  unfold lt at hl
  rw [h] at hl
  exact Cmp.entry.lt_irrefl _ hl

theorem lt_kv_left {x y z : Ent} (h : x.kv = y.kv) : lt x z ↔ lt y z := by unfold lt; rw [h]
theorem lt_kv_right {x y z : Ent} (h : x.kv = y.kv) : lt z x ↔ lt z y := by unfold lt; rw [h]

/-- the last one, taken away -/
theorem dels_last {f a b : List Ent} {x z : Ent} (hs : sorted f) (hz : Lst f z) (h : f = a ++ x :: b) (hx : x.kv = z.kv) : f = (a ++ b) ++ [z] := by
  have hb : b = [] := by
    rcases nil_or_snoc b with hb | ⟨b', y, rfl⟩
    · exact hb
    · obtain ⟨i, hi⟩ := hz
      have h2 : (a ++ x :: b') ++ [y] = i ++ [z] := by rw [← hi, h]; simp
      have h3 := List.append_inj_right' h2 rfl
      have h4 : y = z := by simpa using h3
      subst h4
      rw [h] at hs
      have := (sorted_cons.1 (sorted_append.1 hs).2.1).1 y (by simp)
      exact absurd this (not_lt_kv hx)
  subst hb
  obtain ⟨i, hi⟩ := hz
  have h2 : a ++ [x] = i ++ [z] := by rw [← hi, h]
  have h3 := List.append_inj_right' h2 rfl
  have h4 : x = z := by simpa using h3
  rw [h, h4]
  simp

section
variable {d : Nat} {ea eb : List Ent} {ka kb : List (Nat × T d)} {tq tq' : T d} {q : Nat} {e y z : Ent} {n : Nat}

/-- taken away under a kid -/
theorem dels_kid (hl : ka.length = ea.length) (hok : ok (d + 1) (mk (ea ++ eb) (ka ++ (q, tq) :: kb))) (h4 : 4 ≤ tq.es.length) (h7 : (ea ++ eb).length ≤ 7) (hn : n ≤ (ea ++ eb).length + 1) (hd : Dels d tq.es.length (flat d tq) e tq') :
    Dels (d + 1) n (flat (d + 1) (mk (ea ++ eb) (ka ++ (q, tq) :: kb))) e (mk (ea ++ eb) (ka ++ (q, tq') :: kb)) := by
  obtain ⟨a, x, b, h1, h2, h3, h5, h6, h8⟩ := hd
  refine ⟨heads (flats d ka) ea ++ a, x, b ++ tails eb (flats d kb), ?_, h2, ?_, ?_, h7, hn⟩
  · rw [flat_split hl]
    show heads (flats d ka) ea ++ (flat d tq ++ tails eb (flats d kb)) = _
    rw [h1]; simp
  · rw [flat_split hl]
    show heads (flats d ka) ea ++ (flat d tq' ++ tails eb (flats d kb)) = _
    rw [h3]; simp
  · obtain ⟨k1, k2⟩ := (ok_mk _ _).1 hok
    refine (ok_mk _ _).2 ⟨by simpa using k1, fun k hk => ?_⟩
    rcases List.mem_append.1 hk with hk | hk
    · exact k2 k (by simp [hk])
    · rcases List.mem_cons.1 hk with rfl | hk
      · exact ⟨by simp only; omega, h6, h5⟩
      · exact k2 k (by simp [hk])

/-- the last one under a kid stands in its place -/
theorem dels_swap (hl : ka.length = ea.length) (hl2 : kb.length = eb.length + 1) (hok : ok (d + 1) (mk (ea ++ y :: eb) (ka ++ (q, tq) :: kb))) (hso : sorted (flat (d + 1) (mk (ea ++ y :: eb) (ka ++ (q, tq) :: kb)))) (hy : y.kv = e.kv) (h4 : 4 ≤ tq.es.length) (h7 : (ea ++ y :: eb).length ≤ 7) (hn : n ≤ (ea ++ y :: eb).length + 1)
    (hz : Lst (flat d tq) z) (hd : Dels d tq.es.length (flat d tq) z tq') :
    Dels (d + 1) n (flat (d + 1) (mk (ea ++ y :: eb) (ka ++ (q, tq) :: kb))) e (mk (ea ++ z :: eb) (ka ++ (q, tq') :: kb)) := by
  obtain ⟨a, x, b, h1, h2, h3, h5, h6, h8⟩ := hd
  obtain ⟨k1, kb1, rfl⟩ : ∃ k1 kb1, kb = k1 :: kb1 := by
    cases kb with
    | nil => simp at hl2
    | cons k1 kb1 => exact ⟨k1, kb1, rfl⟩
  have hfl : flat (d + 1) (mk (ea ++ y :: eb) (ka ++ (q, tq) :: k1 :: kb1)) = heads (flats d ka) ea ++ (flat d tq ++ (y :: (flat d k1.2 ++ tails eb (flats d kb1)))) := flat_split hl
  rw [hfl] at hso
  have hsq : sorted (flat d tq) := (sorted_append.1 (sorted_append.1 hso).2.1).1
  have h9 := dels_last hsq hz h1 h2
  refine ⟨heads (flats d ka) ea ++ (a ++ b) ++ [z], y, flat d k1.2 ++ tails eb (flats d kb1), ?_, hy, ?_, ?_, by rw [mk_es]; simpa using h7, by rw [mk_es]; simpa using hn⟩
  · rw [hfl, h9]; simp
  · have : flat (d + 1) (mk (ea ++ z :: eb) (ka ++ (q, tq') :: k1 :: kb1)) = heads (flats d ka) ea ++ (flat d tq' ++ (z :: (flat d k1.2 ++ tails eb (flats d kb1)))) := flat_split hl
    rw [this, h3]; simp
  · obtain ⟨k1', k2⟩ := (ok_mk _ _).1 hok
    refine (ok_mk _ _).2 ⟨by simpa using k1', fun k hk => ?_⟩
    rcases List.mem_append.1 hk with hk | hk
    · exact k2 k (by simp [hk])
    · rcases List.mem_cons.1 hk with rfl | hk
      · exact ⟨by simp only; omega, h6, h5⟩
      · exact k2 k (List.mem_append_right _ (List.mem_cons_of_mem _ hk))

end

/-- the place of what stands here, or would -/
theorem pos_here {ea eb : List Ent} {e : Ent} (ha : ∀ x ∈ ea, lt x e) (hb : eb = [] ∨ ∃ y eb', eb = y :: eb' ∧ ¬ lt y e) : pos ((ea ++ eb).map fun x => ecmp x.kv e.kv) = ea.length := by
  induction ea with
  | nil =>
    rcases hb with rfl | ⟨y, eb', rfl, hy⟩
    · rfl
    · have : ¬ ecmp y.kv e.kv < 0 := fun h => hy (cmp_neg.1 h)
      simp [pos, List.takeWhile, this]
  | cons a ea ih =>
    have h1 : ecmp a.kv e.kv < 0 := cmp_neg.2 (ha a (by simp))
    have := ih fun x hx => ha x (by simp [hx])
    simp only [pos, List.cons_append, List.map_cons] at this ⊢
    rw [List.takeWhile_cons_of_pos (by simpa using h1), List.length_cons, this]
    rfl

theorem found_here {ea eb : List Ent} {e : Ent} (ha : ∀ x ∈ ea, lt x e) (hb : eb = [] ∨ ∃ y eb', eb = y :: eb' ∧ ¬ lt y e) : found ((ea ++ eb).map fun x => ecmp x.kv e.kv) = true ↔ ∃ y eb', eb = y :: eb' ∧ y.kv = e.kv := by
  unfold found
  rw [pos_here ha hb]
  rcases hb with rfl | ⟨y, eb', rfl, hy⟩
  · simp
  · have : ((ea ++ y :: eb').map fun x => ecmp x.kv e.kv)[ea.length]? = some (ecmp y.kv e.kv) := by simp
    rw [this]
    constructor
    · intro h
      exact ⟨y, eb', rfl, (Cmp.entry.eq _ _).1 (by simpa using h)⟩
    · rintro ⟨y', eb2, h1, h2⟩
      injection h1 with h1 _
      subst h1
      have := (Cmp.entry.eq _ _).2 h2
      simp [this]

/-- a node with kids, at the place of an entry that it has itself -/
theorem split_here {d : Nat} {t : T (d + 1)} {e : Ent} (hok : ok (d + 1) t) (hso : sorted (flat (d + 1) t)) (hf : found (t.es.map fun x => ecmp x.kv e.kv) = true) :
    ∃ ea y eb ka q tq kb, t = mk (ea ++ y :: eb) (ka ++ (q, tq) :: kb) ∧ ka.length = ea.length ∧ kb.length = eb.length + 1 ∧ ea.length = pos (t.es.map fun x => ecmp x.kv e.kv) ∧ y.kv = e.kv ∧ (∀ x ∈ heads (flats d ka) ea, lt x e) ∧ (∀ x ∈ flat d tq, lt x e) ∧ (∃ rest, tails (y :: eb) (flats d kb) = y :: rest ∧ ∀ x ∈ rest, lt e x) := by
  have hsub := es_sub (d + 1) t hok
  obtain ⟨ea, eb, hes, hea, ha, hb⟩ := pos_split (sorted_sub hso hsub) e
  obtain ⟨y, eb', rfl, hy, hgt⟩ : ∃ y eb', eb = y :: eb' ∧ y.kv = e.kv ∧ ∀ x ∈ eb', lt e x := by
    rcases hb with ⟨_, h⟩ | ⟨h, _⟩
    · exact h
    · rw [hf] at h; cases h
  have hlk : t.ks.length = t.es.length + 1 := hok.1
  have hi : ea.length < t.ks.length := by rw [hlk, hes]; simp; omega
  have hks : t.ks = t.ks.take ea.length ++ t.ks[ea.length] :: t.ks.drop (ea.length + 1) := by rw [← List.drop_eq_getElem_cons, List.take_append_drop]
  have hk1 : (t.ks.take ea.length).length = ea.length := by rw [List.length_take]; omega
  have hk2 : (t.ks.drop (ea.length + 1)).length = eb'.length + 1 := by rw [List.length_drop, hlk, hes]; simp <;> omega
  have ht : t = mk (ea ++ y :: eb') (t.ks.take ea.length ++ (t.ks[ea.length].1, t.ks[ea.length].2) :: t.ks.drop (ea.length + 1)) := by
    show mk t.es t.ks = mk (ea ++ y :: eb') (t.ks.take ea.length ++ t.ks[ea.length] :: t.ks.drop (ea.length + 1))
    rw [← hks, hes]
  have hfl : flat (d + 1) (mk (ea ++ y :: eb') (t.ks.take ea.length ++ (t.ks[ea.length].1, t.ks[ea.length].2) :: t.ks.drop (ea.length + 1))) = heads (flats d (t.ks.take ea.length)) ea ++ (flat d t.ks[ea.length].2 ++ tails (y :: eb') (flats d (t.ks.drop (ea.length + 1)))) := flat_split hk1
  have hso2 := hso
  rw [ht, hfl] at hso2
  obtain ⟨s1, s2, s3⟩ := sorted_append.1 hso2
  obtain ⟨s4, s5, s6⟩ := sorted_append.1 s2
  have htl : ∃ rest, tails (y :: eb') (flats d (t.ks.drop (ea.length + 1))) = y :: rest := by
    cases h : flats d (t.ks.drop (ea.length + 1)) with
    | nil => have := congrArg List.length h; simp [flats] at this; rw [List.length_drop] at hk2; omega
    | cons k l => exact ⟨_, rfl⟩
  obtain ⟨rest, hrest⟩ := htl
  rw [hrest] at s3 s5 s6
  refine ⟨ea, y, eb', _, _, _, _, ht, hk1, hk2, hea, hy, ?_, ?_, rest, hrest, ?_⟩
  · intro x hx
    exact (lt_kv_right hy).1 (s3 x hx y (by simp))
  · intro x hx
    exact (lt_kv_right hy).1 (s6 x hx y (by simp))
  · intro x hx
    exact (lt_kv_left hy).1 ((sorted_cons.1 s5).1 x hx)

theorem mem_heads {x : Ent} : ∀ {ka : List (List Ent)} {ea : List Ent}, ka.length = ea.length → x ∈ ea → x ∈ heads ka ea
  | [], [], _, h => by cases h
  | k :: ka, a :: ea, hl, h => by
    simp only [heads, List.mem_append, List.mem_cons]
    rcases List.mem_cons.1 h with rfl | h
    · exact .inr (.inl rfl)
    · exact .inr (.inr (mem_heads (by simpa using hl) h))

theorem mem_tails_es {x : Ent} : ∀ {es : List Ent} {ks : List (List Ent)}, ks.length = es.length → x ∈ es → x ∈ tails es ks
  | [], [], _, h => by cases h
  | a :: es, k :: ks, hl, h => by
    simp only [tails, List.mem_append, List.mem_cons]
    rcases List.mem_cons.1 h with rfl | h
    · exact .inl rfl
    · exact .inr (.inr (mem_tails_es (by simpa using hl) h))

section
variable {d : Nat} {ea eb ea' eb' rest : List Ent} {ka kb ka' kb' : List (Nat × T d)} {tq tq' : T d} {e y : Ent}

/-- where an entry stands behind it -/
theorem rdy_place (h : Rdy ea (y :: eb) ka tq kb ea' eb' ka' tq' kb') (hh : ∀ x ∈ heads (flats d ka) ea, lt x e) (ht : tails (y :: eb) (flats d kb) = y :: rest) (hr : ∀ x ∈ rest, lt e x) (hy : y.kv = e.kv) :
    (∀ x ∈ ea', lt x e) ∧ ((∃ eb2, eb' = y :: eb2) ∨ (∀ x ∈ eb', lt e x) ∧ y ∈ flat d tq') := by
  obtain ⟨z1, z2, e1, e2, e3⟩ := h.row
  have hlb : (flats d kb').length = eb'.length := by simpa [flats] using h.lb
  refine ⟨fun x hx => hh x (by rw [e1]; exact List.mem_append_left _ (mem_heads (by simpa [flats] using h.la) hx)), ?_⟩
  rw [ht] at e2
  cases z2 with
  | nil =>
    left
    cases eb' with
    | nil => simp [tails] at e2
    | cons a eb2 =>
      cases hk : flats d kb' with
      | nil => rw [hk] at hlb; simp at hlb
      | cons k ks =>
        rw [hk] at e2
        simp only [List.nil_append, tails, List.cons.injEq] at e2
        exact ⟨eb2, by rw [e2.1]⟩
  | cons a z2 =>
    right
    simp only [List.cons_append, List.cons.injEq] at e2
    obtain ⟨rfl, e2⟩ := e2
    refine ⟨fun x hx => hr x (by rw [e2]; exact List.mem_append_right _ (mem_tails_es hlb hx)), ?_⟩
    rw [e3]; simp

theorem rdy_inn (h : Rdy ea eb ka tq kb ea' eb' ka' tq' kb') (hi : inn e (flat d tq)) : inn e (flat d tq') := by
  obtain ⟨z1, z2, _, _, e3⟩ := h.row
  rw [e3, inn_append, inn_append]
  exact .inr (.inl hi)

end

end Go.Proofs.Ytmibiaakppkmmaa
