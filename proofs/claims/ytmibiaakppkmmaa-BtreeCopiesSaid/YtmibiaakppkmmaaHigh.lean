/- How many entries a tree of some height has; the answers of the contracts, told by what stands in a tree. -/
import Derived.Test.YtmibiaakppkmmaaIs
namespace Go.Proofs.Ytmibiaakppkmmaa
open Go.RowKit Go.Sep
set_option linter.unusedVariables false
set_option linter.unusedSimpArgs false

theorem tails_length : ∀ (es : List Ent) (ks : List (List Ent)), ks.length = es.length → (tails es ks).length = (ks.map fun k => k.length + 1).sum
  | [], [], _ => rfl
  | e :: es, k :: ks, h => by
    have := tails_length es ks (by simpa using h)
    simp [tails, this]; omega

theorem weave_length (es : List Ent) (ks : List (List Ent)) (h : ks.length = es.length + 1) : (weave ks es).length + 1 = (ks.map fun k => k.length + 1).sum := by
  cases ks with
  | nil => simp at h
  | cons k ks =>
    have := tails_length es ks (by simpa using h)
    simp [weave, this]; omega

theorem sum_ge {α : Type} (f : α → Nat) (a : Nat) : ∀ (l : List α), (∀ x ∈ l, a ≤ f x) → l.length * a ≤ (l.map f).sum
  | [], _ => by simp
  | x :: l, h => by
    have h1 := h x (by simp)
    have h2 := sum_ge f a l fun y hy => h y (by simp [hy])
    simp only [List.length_cons, List.map_cons, List.sum_cons, Nat.add_mul, Nat.one_mul]
    omega
theorem sum_le {α : Type} (f : α → Nat) (a : Nat) : ∀ (l : List α), (∀ x ∈ l, f x ≤ a) → (l.map f).sum ≤ l.length * a
  | [], _ => by simp
  | x :: l, h => by
    have h1 := h x (by simp)
    have h2 := sum_le f a l fun y hy => h y (by simp [hy])
    simp only [List.length_cons, List.map_cons, List.sum_cons, Nat.add_mul, Nat.one_mul]
    omega

theorem flat_bounds : ∀ (d : Nat) (t : T d), ok d t → (t.es.length + 1) * 4 ^ d ≤ (flat d t).length + 1 ∧ (flat d t).length + 1 ≤ (t.es.length + 1) * 8 ^ d
  | 0, t, _ => by simp [flat_leaf]
  | d + 1, t, h => by
    obtain ⟨h1, h2⟩ := (ok_succ t).1 h
    have hw : (flat (d + 1) t).length + 1 = (t.ks.map fun k => (flat d k.2).length + 1).sum := by
      rw [flat_succ, weave_length _ _ (by simpa using h1), List.map_map]; rfl
    have hk : ∀ k ∈ t.ks, 4 * 4 ^ d ≤ (flat d k.2).length + 1 ∧ (flat d k.2).length + 1 ≤ 8 * 8 ^ d := by
      intro k hk
      obtain ⟨h3, h4, h5⟩ := h2 k hk
      obtain ⟨h6, h7⟩ := flat_bounds d k.2 h5
      exact ⟨Nat.le_trans (Nat.mul_le_mul_right _ (by omega)) h6, Nat.le_trans h7 (Nat.mul_le_mul_right _ (by omega))⟩
    rw [hw, ← h1, Nat.pow_succ, Nat.mul_comm (4 ^ d), Nat.pow_succ, Nat.mul_comm (8 ^ d)]
    exact ⟨sum_ge _ _ _ fun k hk' => (hk k hk').1, sum_le _ _ _ fun k hk' => (hk k hk').2⟩

theorem tree_high {E : Env} {w : World} {A : Asn} {r d : Nat} {l : List Ent} (hs : sat E w (tree r (d + 1) l * A)) : 2 * 4 ^ d ≤ l.length + 1 ∧ l.length + 1 ≤ 8 * 8 ^ d := by
  obtain ⟨p, t, rfl, hok, h1, h7, _⟩ := sat_tree_succ.1 hs
  obtain ⟨h2, h3⟩ := flat_bounds d t hok
  exact ⟨Nat.le_trans (Nat.mul_le_mul_right _ (by omega)) h2, Nat.le_trans h3 (Nat.mul_le_mul_right _ (by omega))⟩

theorem pow_gt (d : Nat) : d < 4 ^ d := by
  induction d with
  | zero => simp
  | succ d ih => rw [Nat.pow_succ]; omega

/-- a tree is no higher than its entries make for -/
theorem tree_low {E : Env} {w : World} {A : Asn} {r h : Nat} {l : List Ent} (hs : sat E w (tree r h l * A)) : h ≤ l.length := by
  cases h with
  | zero => omega
  | succ d => have := (tree_high hs).1; have := pow_gt d; omega

theorem tree_one {E : Env} {w : World} {A : Asn} {r h : Nat} {l : List Ent} (hs : sat E w (tree r h l * A)) (h1 : 0 < l.length) (h7 : l.length < 7) : h = 1 := by
  cases h with
  | zero => obtain ⟨rfl, _⟩ := sat_tree_zero.1 hs; simp at h1
  | succ d =>
    have h2 := (tree_high hs).1
    cases d with
    | zero => rfl
    | succ d => have h3 := pow_gt d; rw [Nat.pow_succ] at h2; omega

/-- of what is there: from a key on, up to another one; a key's numbers -/
def piece (keep : KV → Bool) (tl : List Val) (m : List KV) : List KV := (m.filter keep).takeWhile fun x => tl.isEmpty || decide (kcmp x.1 tl < 0)
def keyIds (lk : List Val) (m : List KV) : List Int := ((m.filter fun x => decide (¬ kcmp x.1 lk < 0)).takeWhile fun x => decide (x.1 = lk)).map (·.2)

theorem kvs_filter (p : KV → Bool) (l : List Ent) : kvs (l.filter fun e => p e.kv) = (kvs l).filter p := by simp [kvs, List.filter_map, Function.comp_def]
theorem kvs_takeWhile (p : KV → Bool) (l : List Ent) : kvs (l.takeWhile fun e => p e.kv) = (kvs l).takeWhile p := by simp [kvs, List.takeWhile_map, Function.comp_def]
theorem kvs_ids (l : List Ent) : l.map (·.id) = (kvs l).map (·.2) := by simp [kvs, Ent.kv, Function.comp_def]

theorem part_kvs (keep : Ent → Bool) (keep' : KV → Bool) (h : ∀ e, keep e = keep' e.kv) (tl : List Val) (l : List Ent) : kvs ((l.filter keep).takeWhile (upto tl)) = piece keep' tl (kvs l) := by
  have : keep = fun e => keep' e.kv := funext h
  subst this
  unfold piece
  rw [← kvs_filter, ← kvs_takeWhile]
  rfl

theorem ids_kvs (lk : List Val) (l : List Ent) : ((l.filter (notAhead lk)).takeWhile (ofKey lk)).map (·.id) = keyIds lk (kvs l) := by
  unfold keyIds
  rw [kvs_ids, ← kvs_filter, ← kvs_takeWhile]
  rfl

theorem kvs_len {l : List Ent} {m : List KV} (h : kvs l = m) : l.length = m.length := by rw [← h]; simp [kvs]

/-- a tree of these entries -/
def TreeE (E : Env) (w : World) (A : Asn) (r : Nat) (m : List KV) : Prop := ∃ h l, Tree E w A r h l ∧ kvs l = m

def Small (m : List KV) : Prop := m.length ≤ 100000 ∧ ∀ x ∈ m, x.1.length ≤ 1000000

theorem Small.keys {m : List KV} {l : List Ent} (h : Small m) (hl : kvs l = m) : l.length ≤ 100000 ∧ ∀ e ∈ l, e.l.length ≤ 1000000 := by
  subst hl
  refine ⟨by have := h.1; simpa [kvs] using this, fun e he => h.2 e.kv (List.mem_map_of_mem he)⟩

theorem TreeE.sat {E : Env} {w : World} {A : Asn} {r : Nat} {m : List KV} (h : TreeE E w A r m) : sat E w A := by
  obtain ⟨_, l, hT, _⟩ := h
  exact hT.2.2.drop
theorem TreeE.le {E E' : Env} {w : World} {A : Asn} {r : Nat} {m : List KV} (h : TreeE E' w A r m) : ∃ E', TreeE E' w A r m := ⟨_, h⟩

theorem newE (E : Env) (w : World) (A : Asn) (hs : Go.Sep.sat E w A) : Calls Try.prog 19 #[] w (Ret fun v w' => ∃ r, v = ptr r ∧ TreeE E w' A r []) :=
  (treeNew E w A hs).mono fun e w' ⟨v, he, r, hv, hT⟩ => ⟨v, he, r, hv, 0, [], hT, rfl⟩

theorem putE (E : Env) (w : World) (A : Asn) (r : Nat) (m : List KV) (k : Value) (lk : List Val) (id : Int) (hT : TreeE E w A r m) (hv : E.vals k lk) (hn : m.length ≤ 100000) (hk : lk.length ≤ 1000000) :
    Calls Try.prog 20 #[ptr r, k, .int .i64 id] w (Ret fun v w' => v = .bool (decide ((lk, id) ∉ m)) ∧ ∃ E', E.le E' ∧ TreeE E' w' A r (put1 (lk, id) m)) := by
  obtain ⟨h, l, hT, rfl⟩ := hT
  refine (treePut E w A r h l k lk id hT hv (by simpa [kvs] using hn) hk).mono ?_
  rintro e w' ⟨v, he, E', h', l', hE, hT', hkv, hv'⟩
  exact ⟨v, he, hv', E', hE, h', l', hT', hkv⟩

theorem findE (E : Env) (w : World) (A : Asn) (r : Nat) (m : List KV) (ak : Addr) (ck : Nat) (lk : List Val) (hT : TreeE E w A r m) (hv : E.vals (.slice (some ak) lk.length ck) lk) (hm : Small m) :
    Calls Try.prog 15 #[ptr r, .slice (some ak) lk.length ck] w (Ret fun v w' => ∃ E', E.le E' ∧ TreeE E' w' A r m ∧ Env.ints E' v (keyIds lk m)) := by
  obtain ⟨h, l, hT, rfl⟩ := hT
  obtain ⟨h1, h2⟩ := hm.keys rfl
  refine (treeFind E w A r h l hT ak ck lk hv h1 h2).mono ?_
  rintro e w' ⟨v, he, E', hE, hT', hi⟩
  rw [ids_kvs] at hi
  exact ⟨v, he, E', hE, ⟨h, l, hT', rfl⟩, hi⟩

/-- from which entry on -/
def FromE (E : Env) (fr : Value) (keep : KV → Bool) : Prop :=
  fr = .slice none 0 0 ∧ keep = (fun _ => true) ∨ ∃ a n c l, fr = .slice (some a) n c ∧ E.vals fr l ∧ keep = fun x => decide (¬ kcmp x.1 l < 0)

theorem walkE (E : Env) (w : World) (A : Asn) (r : Nat) (m : List KV) (fr tv : Value) (keep : KV → Bool) (tl : List Val) (hT : TreeE E w A r m) (hfr : FromE E fr keep) (hto : E.vals tv tl) (hm : Small m) :
    Calls Try.prog 11 #[ptr r, fr, tv] w (Ret fun v w' => ∃ E' es, E.le E' ∧ TreeE E' w' A r m ∧ Env.ents E' v es ∧ kvs es = piece keep tl m) := by
  obtain ⟨h, l, hT, rfl⟩ := hT
  obtain ⟨h1, h2⟩ := hm.keys rfl
  have hf : From E fr (fun e => keep e.kv) := by
    rcases hfr with ⟨rfl, rfl⟩ | ⟨a, n, c, l, rfl, hv, rfl⟩
    · exact .inl ⟨rfl, rfl⟩
    · exact .inr ⟨a, n, c, l, rfl, hv, rfl⟩
  refine (treeWalk E w A r h l hT fr _ hf tv tl hto h1 h2).mono ?_
  rintro e w' ⟨v, he, E', es, hE, hT', hi, hkv⟩
  rw [part_kvs _ keep (fun _ => rfl)] at hkv
  exact ⟨v, he, E', es, hE, ⟨h, l, hT', rfl⟩, hi, hkv⟩

theorem lenE (E : Env) (w : World) (A : Asn) (r : Nat) (m : List KV) (hT : TreeE E w A r m) : Calls Try.prog 16 #[ptr r] w (Ret fun v w' => v = .int .i64 m.length ∧ w' = w) := by
  obtain ⟨h, l, hT, rfl⟩ := hT
  rw [show (kvs l).length = l.length by simp [kvs]]
  exact treeLen E w A r h l hT.2.2

/-- how high a tree of some entries is -/
def highOf (n h : Nat) : Prop := h = 0 ∧ n = 0 ∨ ∃ d, h = d + 1 ∧ 2 * 4 ^ d ≤ n + 1 ∧ n + 1 ≤ 8 * 8 ^ d

theorem heightE (E : Env) (w : World) (A : Asn) (r : Nat) (m : List KV) (hT : TreeE E w A r m) (hn : m.length ≤ 100000) : Calls Try.prog 18 #[ptr r] w (Ret fun v w' => (∃ h : Nat, v = .int .i64 h ∧ highOf m.length h) ∧ w' = w) := by
  obtain ⟨h, l, hT, rfl⟩ := hT
  have hl : (kvs l).length = l.length := by simp [kvs]
  have hlow := tree_low hT.2.2
  refine (treeHeight E w A r h l hT.2.2 (by omega)).mono ?_
  rintro e w' ⟨v, he, hv, hw⟩
  refine ⟨v, he, ⟨h, hv, ?_⟩, hw⟩
  cases h with
  | zero => obtain ⟨rfl, _⟩ := sat_tree_zero.1 hT.2.2; exact .inl ⟨rfl, rfl⟩
  | succ d => rw [hl]; exact .inr ⟨d, rfl, tree_high hT.2.2⟩

theorem high_one {n h : Nat} (hh : highOf n h) (h1 : 0 < n) (h7 : n < 7) : h = 1 := by
  rcases hh with ⟨_, rfl⟩ | ⟨d, rfl, h2, _⟩
  · omega
  · cases d with
    | zero => rfl
    | succ d => have h3 := pow_gt d; rw [Nat.pow_succ] at h2; omega

/-- whether they are those of these numbers -/
theorem isE (E : Env) (w : World) (A : Asn) (v1 v2 : Value) (l : List Ent) (ns : List (Int × Int)) (hs : sat E w A) (h1 : Env.ents E v1 l) (hkv : kvs l = ns.map fun p => (num p.1, p.2)) (h2 : Env.ints E v2 (ns.flatMap fun p => [p.1, p.2])) :
    Calls Try.prog 26 #[v1, v2] w (Ret fun v w' => v = .bool true ∧ sat E w' A) := by
  have hl : l.length = ns.length := by have := kvs_len hkv; simpa using this
  have hf : ∀ (ns : List (Int × Int)), (ns.flatMap fun p => [p.1, p.2]).length = 2 * ns.length := by
    intro ns
    induction ns with
    | nil => rfl
    | cons p ns ih => simp [ih]; omega
  have hg : ∀ (ns : List (Int × Int)) (i : Nat) (h : i < ns.length), (ns.flatMap fun p => [p.1, p.2])[2 * i]? = some ns[i].1 ∧ (ns.flatMap fun p => [p.1, p.2])[2 * i + 1]? = some ns[i].2 := by
    intro ns
    induction ns with
    | nil => intro i h; simp at h
    | cons p ns ih =>
      intro i h
      cases i with
      | zero => simp
      | succ i =>
        have := ih i (by simpa using h)
        rw [show 2 * (i + 1) = 2 * i + 1 + 1 by omega, show 2 * i + 1 + 1 + 1 = 2 * i + 1 + 1 + 1 from rfl]
        simpa using this
  refine isEnts E w A v1 v2 l _ hs h1 h2 (by rw [hf]; omega) (by rw [hf]; omega) fun i hi => ?_
  obtain ⟨e1, e2⟩ := hg ns i (by omega)
  obtain ⟨_, e1⟩ := List.getElem?_eq_some_iff.1 e1
  obtain ⟨_, e2⟩ := List.getElem?_eq_some_iff.1 e2
  rw [e1, e2]
  have e3 : (kvs l)[i]? = some (l[i].l, l[i].id) := by simp [kvs, Ent.kv, hi]
  rw [hkv] at e3
  simp [show i < ns.length by omega] at e3
  exact ⟨e3.1.symm, e3.2.symm⟩

end Go.Proofs.Ytmibiaakppkmmaa
