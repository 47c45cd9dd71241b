/- The plain law of BtreeParts. -/
import Derived.Test.YtmibiaakppkmmaaWorks2
namespace Go.Proofs.Ytmibiaakppkmmaa
open Go.RowKit Go.Sep
set_option linter.unusedVariables false
set_option linter.unusedSimpArgs false

def rowed (m : List KV) : Prop := m.Pairwise fun a b => ecmp a b = -1

theorem rowed_kvs {l : List Ent} (h : sorted l) : rowed (kvs l) := by
  unfold rowed kvs
  rw [List.pairwise_map]
  exact h

theorem key_le {a b : KV} (h : ecmp a b = -1) : kcmp a.1 b.1 = -1 ∨ a.1 = b.1 := by
  unfold ecmp orI at h
  split at h
  · rename_i h0; exact .inr ((Cmp.key.eq _ _).1 h0)
  · exact .inl h

/-- who is ahead of one that is ahead of a key is ahead of it -/
theorem key_ahead {a b : KV} {k : List Val} (h : ecmp a b = -1) (hb : kcmp b.1 k < 0) : kcmp a.1 k < 0 := by
  have hb1 : kcmp b.1 k = -1 := by rcases Cmp.key.tri b.1 k with x | x | x <;> omega
  rcases key_le h with h1 | h1
  · have := Cmp.key.trans _ _ _ h1 hb1; omega
  · rw [h1]; exact hb

theorem rowed_head {a : KV} {m : List KV} {k : List Val} (h : rowed (a :: m)) (ha : ¬ kcmp a.1 k < 0) : ∀ x ∈ m, ¬ kcmp x.1 k < 0 := fun x hx hlt => ha (key_ahead ((List.pairwise_cons.1 h).1 x hx) hlt)

theorem filter_all {α : Type} {p : α → Bool} {l : List α} (h : ∀ x ∈ l, p x = true) : l.filter p = l := List.filter_eq_self.2 h

theorem split_at (k : List Val) : ∀ {m : List KV}, rowed m → (m.takeWhile fun x => decide (kcmp x.1 k < 0)) ++ (m.filter fun x => decide (¬ kcmp x.1 k < 0)) = m
  | [], _ => rfl
  | a :: m, h => by
    by_cases ha : kcmp a.1 k < 0
    · rw [List.takeWhile_cons_of_pos (by simpa using ha), List.filter_cons_of_neg (by simpa using ha), List.cons_append, split_at k (List.pairwise_cons.1 h).2]
    · rw [List.takeWhile_cons_of_neg (by simpa using ha), List.filter_cons_of_pos (by simpa using ha), List.nil_append, filter_all fun x hx => by simpa using rowed_head h ha x hx]

theorem none_between (k : List Val) (m : List KV) : (m.filter fun x => decide (¬ kcmp x.1 k < 0)).takeWhile (fun x => decide (kcmp x.1 k < 0)) = [] := by
  cases h : m.filter fun x => decide (¬ kcmp x.1 k < 0) with
  | nil => rfl
  | cons a l =>
    have : a ∈ m.filter fun x => decide (¬ kcmp x.1 k < 0) := by rw [h]; simp
    have := (List.mem_filter.1 this).2
    exact List.takeWhile_cons_of_neg (by simpa using this)

theorem keyIds_filter (k : List Val) : ∀ {m : List KV}, rowed m → keyIds k m = (m.filter fun x => decide (x.1 = k)).map (·.2) := by
  intro m h
  unfold keyIds
  congr 1
  induction m with
  | nil => rfl
  | cons a m ih =>
    have ih := ih (List.pairwise_cons.1 h).2
    by_cases ha : kcmp a.1 k < 0
    · have hne : ¬ a.1 = k := by rintro e; rw [e, Cmp.key.self] at ha; omega
      rw [List.filter_cons_of_neg (by simpa using ha), List.filter_cons_of_neg (by simpa using hne), ih]
    · rw [List.filter_cons_of_pos (by simpa using ha)]
      by_cases he : a.1 = k
      · rw [List.takeWhile_cons_of_pos (by simpa using he), List.filter_cons_of_pos (by simpa using he), ih]
      · rw [List.takeWhile_cons_of_neg (by simpa using he), List.filter_cons_of_neg (by simpa using he)]
        symm
        rw [List.filter_eq_nil_iff]
        intro x hx hxk
        have hxk : x.1 = k := by simpa using hxk
        rcases key_le ((List.pairwise_cons.1 h).1 x hx) with h1 | h1
        · rw [hxk] at h1; omega
        · exact he (h1.trans hxk)

theorem piece_all (m : List KV) : piece (fun _ => true) [] m = m := by
  unfold piece
  rw [filter_all (fun _ _ => rfl)]
  have : ∀ (l : List KV), l.takeWhile (fun x => ([] : List Val).isEmpty || decide (kcmp x.1 [] < 0)) = l := by
    intro l; induction l with
    | nil => rfl
    | cons a l ih => rw [List.takeWhile_cons_of_pos (by simp), ih]
  exact this m

theorem piece_from (p : KV → Bool) (m : List KV) : piece p [] m = m.filter p := by
  have := piece_all (m.filter p)
  unfold piece at this ⊢
  rwa [filter_all (fun _ _ => rfl)] at this

theorem piece_to (p : KV → Bool) (k : List Val) (hk : k ≠ []) (m : List KV) : piece p k m = (m.filter p).takeWhile fun x => decide (kcmp x.1 k < 0) := by
  unfold piece
  have : k.isEmpty = false := by cases k with | nil => exact absurd rfl hk | cons => rfl
  simp [this]

theorem put1_mem {x y : KV} : ∀ {l : List KV}, y ∈ put1 x l → y = x ∨ y ∈ l
  | [], h => by simp [put1] at h; exact .inl h
  | a :: l, h => by
    simp only [put1] at h
    split at h
    · rcases List.mem_cons.1 h with rfl | h
      · exact .inr (by simp)
      · rcases put1_mem h with h | h
        · exact .inl h
        · exact .inr (by simp [h])
    · split at h
      · exact .inr h
      · rcases List.mem_cons.1 h with rfl | h
        · exact .inl rfl
        · exact .inr h

theorem foldl_mem {y : KV} : ∀ (l a : List KV), y ∈ l.foldl (fun a x => put1 x a) a → y ∈ l ∨ y ∈ a
  | [], a, h => .inr h
  | x :: l, a, h => by
    rcases foldl_mem l (put1 x a) h with h | h
    · exact .inl (by simp [h])
    · rcases put1_mem h with rfl | h
      · exact .inl (by simp)
      · exact .inr h

theorem putAll_mem {y : KV} {l : List KV} (h : y ∈ putAll l) : y ∈ l := by
  rcases foldl_mem l [] h with h | h
  · exact h
  · cases h

theorem foldl_length : ∀ (l a : List KV), (l.foldl (fun a x => put1 x a) a).length ≤ l.length + a.length
  | [], a => by simp
  | x :: l, a => by have := foldl_length l (put1 x a); have := put1_length x a; simp; omega

theorem small_putAll {l : List Stp} (h : few l) : Small (putAll (l.map Stp.kv)) := by
  refine ⟨?_, fun x hx => ?_⟩
  · have := foldl_length (l.map Stp.kv) []
    have h1 := h.1
    unfold putAll
    simp at this
    omega
  · obtain ⟨s, hs, rfl⟩ := List.mem_map.1 (putAll_mem hx)
    have := (h.2 s hs).1
    show s.l.length ≤ _
    omega

theorem TreeE.rowed {E : Env} {w : World} {A : Asn} {r : Nat} {m : List KV} (h : TreeE E w A r m) : rowed m := by
  obtain ⟨h, l, hT, rfl⟩ := h
  exact rowed_kvs hT.2.1

theorem manyE (E : Env) (w : World) (A : Asn) (v : Value) (l : List Stp) (hs : Go.Sep.sat E w A) (h : Env.steps E v l) (hf : few l) :
    Calls Try.prog 10 #[v] w (Ret fun r w' => ∃ p E', r = ptr p ∧ E.le E' ∧ TreeE E' w' A p (putAll (l.map Stp.kv))) := by
  refine (manyTree E w A v l hs h hf).mono ?_
  rintro e w' ⟨r, he, p, E', h, es, rfl, hE, hT, hkv, _⟩
  exact ⟨_, he, p, E', rfl, hE, h, es, hT, hkv⟩

/-- what is read of a slice of entries -/
theorem ents_firsts {E : Env} {w : World} {A : Asn} (hs : Go.Sep.sat E w A) {v : Value} {l : List Ent} (h : Env.ents E v l) : ∃ a cap, v = .slice a l.length cap ∧ firsts Try.prog w 2 l.length v (entCells l) := by
  obtain ⟨_, hg, a, b, o, cap, rfl, ha, hc⟩ := h
  refine ⟨a, cap, rfl, ?_⟩
  rcases ha with ⟨rfl, hl⟩ | rfl
  · have := hl.out
    subst this
    exact firsts_zero
  · refine firsts_some (entCells_length l) fun j x hj => ?_
    rw [add_lit]
    have hjl : j < (entCells l).length := (List.getElem?_eq_some_iff.1 hj).1
    rw [entCells_length] at hjl
    have hi : j / 2 < l.length := by omega
    obtain ⟨c1, c2⟩ := entCells_get l (j / 2) hi
    obtain ⟨d1, d2⟩ := hc (j / 2) hi
    rcases Nat.mod_two_eq_zero_or_one j with h2 | h2
    · have e : j / 2 * 2 = j := by omega
      rw [e] at c1 d1
      rw [hj] at c1
      cases c1
      exact hs.cell d1
    · have e : j / 2 * 2 + 1 = j := by omega
      rw [e] at c2
      rw [show o + j / 2 * 2 + 1 = o + j by omega] at d2
      rw [hj] at c2
      cases c2
      exact hs.cell d2

end Go.Proofs.Ytmibiaakppkmmaa
