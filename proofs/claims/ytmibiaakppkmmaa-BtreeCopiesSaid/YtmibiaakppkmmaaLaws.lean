/- Plain laws: places among sorted entries, and what stands under a node. -/
import Derived.Test.YtmibiaakppkmmaaTree
import Derived.Test.YtmibiaakppkmmaaPull
namespace Go.Proofs.Ytmibiaakppkmmaa
open Go.RowKit Go.Sep
set_option linter.unusedVariables false
set_option linter.unusedSimpArgs false

def mk {d : Nat} (es : List Ent) (ks : List (Nat × T d)) : T (d + 1) := (⟨es, ks⟩ : Nd (T d))
def leaf (es : List Ent) : T 0 := (⟨es, []⟩ : Nd Empty)
def T.ks {d : Nat} (t : T (d + 1)) : List (Nat × T d) := Nd.ks (κ := T d) t

theorem mk_eta {d : Nat} (t : T (d + 1)) : mk t.es t.ks = t := rfl
theorem mk_es {d : Nat} (es : List Ent) (ks : List (Nat × T d)) : (mk es ks).es = es := rfl
theorem mk_ks {d : Nat} (es : List Ent) (ks : List (Nat × T d)) : (mk es ks).ks = ks := rfl
theorem leaf_es (es : List Ent) : (leaf es).es = es := rfl
theorem flat_mk {d : Nat} (es : List Ent) (ks : List (Nat × T d)) : flat (d + 1) (mk es ks) = weave (ks.map fun k => flat d k.2) es := rfl
theorem flat_leaf (t : T 0) : flat 0 t = t.es := rfl
theorem flat_succ {d : Nat} (t : T (d + 1)) : flat (d + 1) t = weave (t.ks.map fun k => flat d k.2) t.es := rfl
theorem ok_mk {d : Nat} (es : List Ent) (ks : List (Nat × T d)) : ok (d + 1) (mk es ks) ↔ ks.length = es.length + 1 ∧ ∀ k ∈ ks, 3 ≤ k.2.es.length ∧ k.2.es.length ≤ 7 ∧ ok d k.2 := Iff.rfl
theorem ok_succ {d : Nat} (t : T (d + 1)) : ok (d + 1) t ↔ t.ks.length = t.es.length + 1 ∧ ∀ k ∈ t.ks, 3 ≤ k.2.es.length ∧ k.2.es.length ≤ 7 ∧ ok d k.2 := Iff.rfl

def lt (a b : Ent) : Prop := ecmp a.kv b.kv = -1

theorem lt_trans {a b c : Ent} (h : lt a b) (h' : lt b c) : lt a c := Cmp.entry.trans _ _ _ h h'
theorem not_lt_self (a : Ent) : ¬ lt a a := Cmp.entry.lt_irrefl a.kv
theorem lt_or {a b : Ent} (h : ecmp a.kv b.kv ≠ 0) : lt a b ∨ lt b a := by
  rcases Cmp.entry.tri a.kv b.kv with x | x | x
  · exact .inl x
  · exact absurd x h
  · right
    have := Cmp.entry.anti a.kv b.kv
    rw [x] at this
    exact this
theorem lt_gt {a b : Ent} : lt b a ↔ ecmp a.kv b.kv = 1 := by
  have := Cmp.entry.anti a.kv b.kv
  unfold lt
  omega
theorem cmp_neg {a b : Ent} : ecmp a.kv b.kv < 0 ↔ lt a b := by
  unfold lt
  rcases Cmp.entry.tri a.kv b.kv with x | x | x <;> omega
theorem cmp_pos {a b : Ent} : 0 < ecmp a.kv b.kv ↔ lt b a := by
  rw [lt_gt]
  rcases Cmp.entry.tri a.kv b.kv with x | x | x <;> omega

theorem sorted_def (l : List Ent) : sorted l ↔ l.Pairwise lt := Iff.rfl

theorem sorted_append {a b : List Ent} : sorted (a ++ b) ↔ sorted a ∧ sorted b ∧ ∀ x ∈ a, ∀ y ∈ b, lt x y := by
  simp only [sorted_def]; exact List.pairwise_append
theorem sorted_cons {x : Ent} {b : List Ent} : sorted (x :: b) ↔ (∀ y ∈ b, lt x y) ∧ sorted b := by
  simp only [sorted_def]; exact List.pairwise_cons
theorem sorted_sub {a b : List Ent} (h : sorted b) (hs : a.Sublist b) : sorted a := List.Pairwise.sublist hs h

theorem rises_sorted {es : List Ent} (h : sorted es) (e : List Val × Int) : rises (es.map fun x => ecmp x.kv e) := by
  intro i j x y hij hx hy hlt
  simp only [List.getElem?_map, Option.map_eq_some_iff] at hx hy
  obtain ⟨a, ha, rfl⟩ := hx
  obtain ⟨b, hb, rfl⟩ := hy
  obtain ⟨hi, rfl⟩ := List.getElem?_eq_some_iff.1 ha
  obtain ⟨hj, rfl⟩ := List.getElem?_eq_some_iff.1 hb
  have hb1 : ecmp es[j].kv e = -1 := by rcases Cmp.entry.tri es[j].kv e with x | x | x <;> omega
  by_cases e1 : i = j
  · subst e1; omega
  · have h1 := List.pairwise_iff_getElem.1 h i j hi hj (by omega)
    have := Cmp.entry.trans _ _ _ h1 hb1
    omega

/-- the place of an entry -/
theorem pos_split {es : List Ent} (h : sorted es) (e : Ent) : ∃ ea eb, es = ea ++ eb ∧ ea.length = pos (es.map fun x => ecmp x.kv e.kv) ∧ (∀ x ∈ ea, lt x e) ∧
    ((found (es.map fun x => ecmp x.kv e.kv) = true ∧ ∃ y eb', eb = y :: eb' ∧ y.kv = e.kv ∧ ∀ x ∈ eb', lt e x) ∨ (found (es.map fun x => ecmp x.kv e.kv) = false ∧ ∀ x ∈ eb, lt e x)) := by
  induction es with
  | nil => exact ⟨[], [], rfl, rfl, by simp, .inr ⟨rfl, by simp⟩⟩
  | cons a es ih =>
    obtain ⟨h1, h2⟩ := sorted_cons.1 h
    rcases Cmp.entry.tri a.kv e.kv with x | x | x
    · obtain ⟨ea, eb, rfl, hl, ha, hb⟩ := ih h2
      have hp : pos ((a :: (ea ++ eb)).map fun x => ecmp x.kv e.kv) = pos ((ea ++ eb).map fun x => ecmp x.kv e.kv) + 1 := by simp [pos, List.takeWhile, x]
      have hf : found ((a :: (ea ++ eb)).map fun x => ecmp x.kv e.kv) = found ((ea ++ eb).map fun x => ecmp x.kv e.kv) := by
        unfold found; rw [hp]; simp
      refine ⟨a :: ea, eb, rfl, by rw [hp, ← hl]; rfl, ?_, by rw [hf]; exact hb⟩
      intro y hy
      rcases List.mem_cons.1 hy with rfl | hy
      · exact x
      · exact ha y hy
    · refine ⟨[], a :: es, rfl, by simp [pos, List.takeWhile, x], by simp, .inl ⟨by simp [found, pos, List.takeWhile, x], a, es, rfl, (Cmp.entry.eq _ _).1 x, ?_⟩⟩
      intro y hy
      have := h1 y hy
      unfold lt at this ⊢
      rwa [(Cmp.entry.eq _ _).1 x] at this
    · have hx : lt e a := lt_gt.2 x
      refine ⟨[], a :: es, rfl, by simp [pos, List.takeWhile, x], by simp, .inr ⟨by simp [found, pos, List.takeWhile, x], ?_⟩⟩
      intro y hy
      rcases List.mem_cons.1 hy with rfl | hy
      · exact hx
      · exact lt_trans hx (h1 y hy)

theorem tails_sub : ∀ (es : List Ent) (ks : List (List Ent)), ks.length = es.length → es.Sublist (tails es ks)
  | [], _, _ => List.nil_sublist _
  | e :: es, k :: ks, h => by
    simp only [tails]
    exact (List.Sublist.trans (tails_sub es ks (by simpa using h)) (List.sublist_append_right _ _)).cons_cons e

theorem weave_sub (es : List Ent) (ks : List (List Ent)) (h : ks.length = es.length + 1) : es.Sublist (weave ks es) := by
  cases ks with
  | nil => simp at h
  | cons k ks => exact (tails_sub es ks (by simpa using h)).trans (List.sublist_append_right _ _)

theorem es_sub (d : Nat) (t : T d) (h : ok d t) : t.es.Sublist (flat d t) := by
  cases d with
  | zero => exact List.Sublist.refl _
  | succ d => exact weave_sub _ _ (by rw [List.length_map]; exact h.1)

theorem heads_lt {e : Ent} : ∀ (ka : List (List Ent)) (ea : List Ent), ka.length = ea.length → sorted (heads ka ea) → (∀ x ∈ ea, lt x e) → ∀ x ∈ heads ka ea, lt x e
  | [], [], _, _, _, x, hx => by simp [heads] at hx
  | k :: ka, a :: ea, h, hs, ha, x, hx => by
    simp only [heads] at hs hx
    obtain ⟨_, h2, h3⟩ := sorted_append.1 hs
    rcases List.mem_append.1 hx with hx | hx
    · exact lt_trans (h3 x hx a (by simp)) (ha a (by simp))
    · rcases List.mem_cons.1 hx with rfl | hx
      · exact ha _ (by simp)
      · exact heads_lt ka ea (by simpa using h) (sorted_cons.1 h2).2 (fun y hy => ha y (List.mem_cons_of_mem _ hy)) x hx

theorem tails_gt {e : Ent} : ∀ (eb : List Ent) (kb : List (List Ent)), kb.length = eb.length → sorted (tails eb kb) → (∀ x ∈ eb, lt e x) → ∀ x ∈ tails eb kb, lt e x
  | [], [], _, _, _, x, hx => by simp [tails] at hx
  | a :: eb, k :: kb, h, hs, ha, x, hx => by
    simp only [tails] at hs hx
    obtain ⟨h1, h2⟩ := sorted_cons.1 hs
    rcases List.mem_cons.1 hx with rfl | hx
    · exact ha _ (by simp)
    · rcases List.mem_append.1 hx with hx | hx
      · exact lt_trans (ha a (by simp)) (h1 x (List.mem_append_left _ hx))
      · exact tails_gt eb kb (by simpa using h) (sorted_append.1 h2).2.1 (fun y hy => ha y (List.mem_cons_of_mem _ hy)) x hx

/-- what stands ahead of a kid, and behind it -/
theorem flat_split {d : Nat} {ea eb : List Ent} {ka kb : List (Nat × T d)} {k : Nat × T d} (h : ka.length = ea.length) :
    flat (d + 1) (mk (ea ++ eb) (ka ++ k :: kb)) = heads (ka.map fun k => flat d k.2) ea ++ (flat d k.2 ++ tails eb (kb.map fun k => flat d k.2)) := by
  rw [flat_mk, List.map_append, List.map_cons]
  exact weave_split (by simpa using h)

theorem flat_cut {d : Nat} {ea eb : List Ent} {ka kb : List (Nat × T d)} {k k1 k2 : Nat × T d} {m : Ent} (h : ka.length = ea.length) (hf : flat d k.2 = flat d k1.2 ++ m :: flat d k2.2) :
    flat (d + 1) (mk (ea ++ m :: eb) (ka ++ k1 :: k2 :: kb)) = flat (d + 1) (mk (ea ++ eb) (ka ++ k :: kb)) := by
  rw [flat_split h, flat_split h, hf]
  simp [tails]

theorem nodes_split {d q : Nat} {t : T d} {ka kb : List (Nat × T d)} : nodes d (ka ++ (q, t) :: kb) = nodes d ka * (node d q t * nodes d kb) := by rw [nodes_append, nodes_cons]

/-- a node is opened at a kid, and closed -/
theorem open_node {E : Env} {w : World} {A : Asn} {d p q : Nat} {es : List Ent} {ka kb : List (Nat × T d)} {t : T d} :
    sat E w (node (d + 1) p (mk es (ka ++ (q, t) :: kb)) * A) ↔ ∃ ve vk, sat E w (nd p ve vk * (ents ve es * (kids vk (ka.map (·.1) ++ q :: kb.map (·.1)) * (node d q t * (nodes d ka * (nodes d kb * A)))))) := by
  rw [sat_node]
  refine exists_congr fun ve => exists_congr fun vk => ?_
  have : nd p ve vk * (ents ve (mk es (ka ++ (q, t) :: kb)).es * (under (d + 1) vk (mk es (ka ++ (q, t) :: kb)) * A)) = nd p ve vk * (ents ve es * (kids vk (ka.map (·.1) ++ q :: kb.map (·.1)) * (node d q t * (nodes d ka * (nodes d kb * A))))) := by
    rw [under_succ, mk_es, show Nd.ks (κ := T d) (mk es (ka ++ (q, t) :: kb)) = ka ++ (q, t) :: kb from rfl, nodes_split, List.map_append, List.map_cons]
    ac_rfl
  rw [this]

theorem goods_sub {E : Env} {a b : List Ent} (h : Env.goods E b) (hs : a.Sublist b) : Env.goods E a := fun e he => h e (hs.subset he)

end Go.Proofs.Ytmibiaakppkmmaa
