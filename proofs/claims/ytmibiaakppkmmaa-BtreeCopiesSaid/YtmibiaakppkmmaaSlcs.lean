/- slices.Insert (of one), Delete, Clone, Grow and Concat on owned slices of entries and of nodes. -/
import Derived.Test.YtmibiaakppkmmaaCmps2
import Derived.Lib.Overlaps
namespace Go.Proofs.Ytmibiaakppkmmaa
open Go.RowKit Go.Sep
set_option linter.unusedVariables false
set_option linter.unusedSimpArgs false

theorem shape_of_block {w : World} {b : Nat} {c : Array Value} {t : TypeId} {fz : Nat × Nat} (h : w.heap[b]? = some (.cells c t fz)) : w.shape? b = some (t, c.size) := by simp [World.shape?, h]

theorem ins_room {α : Type} (cur xs ys : List α) (a s N : Nat) (ha : a ≤ N) (hx : cur.take N = xs) (hl : xs.length = N) (hy : ys.length = s) (hc : N + s ≤ cur.length) :
    ((((cur.take (a + s) ++ xs.drop a ++ cur.drop (a + s + (xs.drop a).length)).take a ++ ys ++ (cur.take (a + s) ++ xs.drop a ++ cur.drop (a + s + (xs.drop a).length)).drop (a + s))).take (N + s)) = xs.take a ++ ys ++ xs.drop a := by
  have h1 : (cur.take (a + s) ++ xs.drop a ++ cur.drop (a + s + (xs.drop a).length)).take a = xs.take a := by
    rw [List.append_assoc, List.take_append_of_le_length (by simp; omega), List.take_take, Nat.min_eq_left (by omega), ← hx, List.take_take, Nat.min_eq_left ha]
  have h2 : (cur.take (a + s) ++ xs.drop a ++ cur.drop (a + s + (xs.drop a).length)).drop (a + s) = xs.drop a ++ cur.drop (a + s + (xs.drop a).length) := by
    rw [List.append_assoc, List.drop_append_of_le_length (by simp; omega)]
    simp
  rw [h1, h2, ← List.append_assoc]
  rw [List.take_append_of_le_length (by simp; omega), List.take_of_length_le (by simp; omega)]

theorem ins_grow {α : Type} (cur xs ys : List α) (a s N : Nat) (ha : a ≤ N) (hx : cur.take a = xs.take a) (hl : xs.length = N) (hy : ys.length = s) (hc : N + s ≤ cur.length) :
    ((((cur.take a ++ ys ++ cur.drop (a + ys.length)).take (a + s) ++ xs.drop a ++ (cur.take a ++ ys ++ cur.drop (a + ys.length)).drop (a + s + (xs.drop a).length))).take (N + s)) = xs.take a ++ ys ++ xs.drop a := by
  have h1 : (cur.take a ++ ys ++ cur.drop (a + ys.length)).take (a + s) = xs.take a ++ ys := by
    rw [List.take_append_of_le_length (by simp; omega), List.take_of_length_le (by simp; omega), hx]
  rw [h1, List.take_append_of_le_length (by simp; omega), List.take_of_length_le (by simp; omega)]

theorem del_list {α : Type} (cur xs zs : List α) (a b N z : Nat) (hab : a ≤ b) (hb : b ≤ N) (hx : cur.take N = xs) (hl : xs.length = N) :
    ((cur.take a ++ xs.drop b ++ cur.drop (a + (xs.drop b).length)).take (a + (N - b)) ++ zs ++ (cur.take a ++ xs.drop b ++ cur.drop (a + (xs.drop b).length)).drop z).take (a + (N - b)) = xs.take a ++ xs.drop b := by
  have hc : N ≤ cur.length := by rw [← hl, ← hx]; simp; omega
  have h0 : cur.take a = xs.take a := by rw [← hx, List.take_take, Nat.min_eq_left (by omega)]
  have h1 : (cur.take a ++ xs.drop b ++ cur.drop (a + (xs.drop b).length)).take (a + (N - b)) = xs.take a ++ xs.drop b := by
    rw [List.take_append_of_le_length (by simp; omega), List.take_of_length_le (by simp; omega), h0]
  rw [h1, List.append_assoc, List.take_append_of_le_length (by simp; omega), List.take_of_length_le (by simp; omega)]

theorem zerosEnt_one (m : Nat) : ∀ u ∈ zeros zEnt m, u.oneCell' = true := by
  intro u hu
  simp only [zeros, Builtin.zeroCells, zEnt, Value.cells] at hu
  simp at hu
  obtain ⟨j, hj, rfl⟩ := hu
  have : j % 2 = 0 ∨ j % 2 = 1 := by omega
  rcases this with h | h <;> rw [h] <;> rfl

theorem zerosNode_one (m : Nat) : ∀ u ∈ zeros (Value.pointer none) m, u.oneCell' = true := by
  intro u hu
  simp only [zeros, Builtin.zeroCells, Value.cells] at hu
  simp at hu
  obtain ⟨j, hj, rfl⟩ := hu
  have : j % 1 = 0 := by omega
  rw [this]; rfl

theorem sizeOf35 (w : World) : (Go.sizeOf 35).run Try.prog w = .ok 2 w := by
  obtain ⟨i, el⟩ := elEnt
  simp [Go.sizeOf, typeInfo, el.hi, el.size]

theorem ovlEnt (w : World) (b g o la ca lb cb : Nat) (cb' cg : Array Value) (hne : b ≠ g) (hb : w.heap[b]? = some (.cells cb' 35 (0, 0))) (hg : w.heap[g]? = some (.cells cg 35 (0, 0))) (hc : cg.size ≠ 0) :
    (callFunc 65 #[.slice (some ⟨b, 0, none⟩) la ca, .slice (some ⟨g, o, none⟩) lb cb]).run Try.prog w = .ok (.value (.bool false)) w := by
  rw [run_callFunc_extern Try.func65 (by kernel_rfl) (by kernel_rfl) (by kernel_rfl) (e := Extern.SlicesOverlaps.overlaps #[29, 29] #[4]) (by kernel_rfl),
    Lib.run_overlaps_apart w 29 4 35 Try.underlying29 2 sizeOf35 ⟨b, 0, none⟩ ⟨g, o, none⟩ la ca lb cb hne 35 35 _ _ (shape_of_block hb) (shape_of_block hg) hc (frozen_of_block hb) (frozen_of_block hb)]
  rfl

set_option maxHeartbeats 2000000 in
set_option maxRecDepth 100000 in
/-- one element is put into an owned slice -/
theorem insEnt (E : Env) (w : World) (A : Asn) (v : Value) (n : Nat) (xs ys : List Value) (i b : Nat) (hi : i ≤ n) (hn : n ≤ 100000) (hs : sat E w (row 35 2 v n xs * (pts b (.cells ys.toArray 35 (0, 0)) * A)))
    (hy : ys.length = 2) (h1 : ∀ u ∈ ys, u.oneCell' = true) (h2 : ∀ u ∈ xs, u.oneCell' = true) :
    Calls Try.prog 52 #[v, .int .i64 i, .slice (some ⟨b, 0, none⟩) 1 1] w (Ret fun v' w' => v' ≠ .slice none 0 0 ∧ sat E w' (row 35 2 v' (n + 1) (xs.take (i * 2) ++ ys ++ xs.drop (i * 2)) * (pts b (.cells ys.toArray 35 (0, 0)) * A))) := by
  obtain ⟨i0, el⟩ := elEnt
  have hfy : firsts Try.prog w 2 1 (.slice (some ⟨b, 0, none⟩) 1 1) ys := by
    refine firsts_some hy fun j x hj => ?_
    rw [add_lit, cell_of_block (hs.drop.block)]
    simpa using hj
  refine ret_hide fun R hR => ?_
  by_cases hin : i = n
  · -- behind the last one
    subst hin
    obtain ⟨v', w', hr, hs2, hnil, _⟩ := append_row el 29 hs (some ⟨b, 0, none⟩) 1 1 ys hy hfy h1 (by unfold maxLen; omega) (by omega)
    have hlx := hs.row.1
    have hx : xs.take (i * 2) = xs := List.take_of_length_le (by omega)
    have hx' : xs.drop (i * 2) = [] := List.drop_eq_nil_of_le (by omega)
    have hs3 : sat E w' (row 35 2 v' (i + 1) (xs.take (i * 2) ++ ys ++ xs.drop (i * 2)) * (pts b (.cells ys.toArray 35 (0, 0)) * A)) := by rw [hx, hx', List.append_nil]; exact hs2
    have hnil : v' ≠ .slice none 0 0 := by simpa using hnil
    have hR' := hR.out _ _ ⟨hnil, hs3⟩
    clear hs2 hs3 hx hx' hlx hR
    obtain ⟨_, ⟨rfl, rfl, hA⟩ | ⟨g, cap, cur, rfl, c1, c2, c3, c4, hp⟩⟩ := hs.row
    all_goals
      clear el hs
      go_enter Try.func52, Try.ntmps52
      try simp only [Nat.mul_one] at hr
      go_wp2_with (at_builtin; refine Lib.wpList_append_run _ rfl _ _ _ _ rfl _ _ rfl rfl _ _ hr ?_)
      all_goals
        try go_ret
        exact hR'
  · have hlx := hs.row.1
    obtain ⟨_, ⟨rfl, rfl, hA⟩ | ⟨g, cap, cur, rfl, c1, c2, c3, c4, hp⟩⟩ := hs.row
    · omega
    have hcl : cur.toList.length = cur.size := Array.length_toList
    have hld : (xs.drop (i * 2)).length = (n - i) * 2 := by simp; omega
    have hdm : ∀ u ∈ xs.drop (i * 2), u.oneCell' = true := fun u hu => h2 u (List.mem_of_mem_drop hu)
    have xcell : ∀ (w' : World) (B : Asn), sat E w' (pts g (.cells cur 35 (0, 0)) * B) → firsts Try.prog w' 2 (n - i) (.slice (some ⟨g, i * 2, none⟩) (n - i) (cap - i)) (xs.drop (i * 2)) := fun w' B h => firsts_some hld fun j x hj => by
      rw [add_lit]
      exact row_cell h.block c4 _ _ (by rw [← List.getElem?_drop]; exact hj)
    by_cases hroom : n + 1 ≤ cap
    · -- there is room
      have hb := (hp.to (sep_left_comm _ _ _)).block
      have hg := hp.block
      have hne : b ≠ g := (hp.to (sep_left_comm _ _ _)).ne
      have ho := fun o la ca lb cb => ovlEnt w b g o la ca lb cb _ _ hne hb hg (by omega)
      clear hb hg hs hfy
      have xcell1 : ∀ (w' : World) (B : Asn), sat E w' (pts g (.cells cur 35 (0, 0)) * B) → firsts Try.prog w' 2 (n - i) (.slice (some ⟨g, i * 2, none⟩) (n + 1 - i) (cap - i)) (xs.drop (i * 2)) := fun w' B h => firsts_some hld fun j x hj => by
        rw [add_lit]
        exact row_cell h.block c4 _ _ (by rw [← List.getElem?_drop]; exact hj)
      have X1 := Lib.hid xcell1
      have X2 := Lib.hid hdm
      clear xcell xcell1 hdm
      go_enter Try.func52, Try.ntmps52
      go_wp2_with fail
      refine wp_draw_lit [(0,3),(1,3),(2,3),(3,3),(4,3),(5,3),(6,3),(7,3),(8,2)] (fun w' => sat E w' (pts g (.cells cur 35 (0, 0)) * (pts b (.cells ys.toArray 35 (0, 0)) * A))) (by kernel_rfl) (by kernel_rfl) rfl hp.drew ?_
      iterate 8 (refine wpD_pure _ rfl rfl rfl ?_; apply Exists.intro; refine ⟨fun w' => ?_, ?_, ?_⟩; (go_wp2; exact ⟨rfl, rfl, rfl⟩); rfl)
      refine wpD_does (by decide) rfl rfl (fun Nx hNx w' hK => ?_)
      have hcp := own_copy (P := Try.prog) (w := w') (sz := 2) (dT := 29) (sT := 29) 3 Try.underlying29 el.hi el.size ((i + 1) * 2) (n - i) (cap - (i + 1)) hK.block (some ⟨g, i * 2, none⟩) (n + 1 - i) (cap - i) (n - i) (xs.drop (i * 2)) (show min _ _ = _ by omega) hld (X1.out w' _ hK) X2.out (by rw [hld]; omega)
      have hs5 := hK.setRow (cur.toList.take ((i + 1) * 2) ++ xs.drop (i * 2) ++ cur.toList.drop ((i + 1) * 2 + (xs.drop (i * 2)).length)).toArray
      generalize w'.setRow g (cur.toList.take ((i + 1) * 2) ++ xs.drop (i * 2) ++ cur.toList.drop ((i + 1) * 2 + (xs.drop (i * 2)).length)).toArray = w2 at hcp hs5
      try simp only [Nat.mul_one] at hcp
      go_wp2_with (refine wpList_copy_run rfl _ _ _ _ rfl _ _ rfl rfl _ _ hcp ?_)
      refine ⟨rfl, (fun x => sat E x _), hs5, fun h => (by cases h), hNx _ _ ?_⟩
      clear hs5 hK hNx hcp
      refine wpD_nil (fun w6 hK6 => ?_)
      have hfy : firsts Try.prog w6 2 1 (.slice (some ⟨b, 0, none⟩) 1 1) ys := by
        refine firsts_some hy fun j x hj => ?_
        rw [add_lit, cell_of_block ((hK6.to (sep_left_comm _ _ _)).block)]
        simpa using hj
      have hcp := own_copy (P := Try.prog) (w := w6) (sz := 2) (dT := 29) (sT := 29) 3 Try.underlying29 el.hi el.size (i * 2) (n + 1 - i) (cap - i) hK6.block (some ⟨b, 0, none⟩) 1 1 1 ys (show min _ _ = _ by omega) hy hfy h1 (by simp only [List.size_toArray, List.length_append, List.length_take, List.length_drop, hcl, hlx, hy]; omega)
      have hs7 := hK6.setRow (((cur.toList.take ((i + 1) * 2) ++ xs.drop (i * 2) ++ cur.toList.drop ((i + 1) * 2 + (xs.drop (i * 2)).length)).take (i * 2) ++ ys ++ (cur.toList.take ((i + 1) * 2) ++ xs.drop (i * 2) ++ cur.toList.drop ((i + 1) * 2 + (xs.drop (i * 2)).length)).drop (i * 2 + ys.length))).toArray
      have hl3 := ins_room cur.toList xs ys (i * 2) 2 (n * 2) (by omega) c4 hlx hy (by rw [hcl]; omega)
      rw [show i * 2 + 2 = (i + 1) * 2 by omega] at hl3
      rw [show i * 2 + ys.length = (i + 1) * 2 by omega] at hs7
      have hs8 := hs7.mk_row (n := n + 1) (sz := 2) (xs := xs.take (i * 2) ++ ys ++ xs.drop (i * 2)) (cap := cap) (by simp only [List.length_append, List.length_take, List.length_drop, hlx, hy]; omega) hroom c2
        (by simp only [List.size_toArray, List.length_append, List.length_take, List.length_drop, hcl, hlx, hy]; omega) (by rw [show (n + 1) * 2 = n * 2 + 2 by omega]; exact hl3)
      rw [show i * 2 + ys.length = (i + 1) * 2 by omega] at hcp
      simp only [List.toList_toArray] at hcp
      generalize w6.setRow g (((cur.toList.take ((i + 1) * 2) ++ xs.drop (i * 2) ++ cur.toList.drop ((i + 1) * 2 + (xs.drop (i * 2)).length)).take (i * 2) ++ ys ++ (cur.toList.take ((i + 1) * 2) ++ xs.drop (i * 2) ++ cur.toList.drop ((i + 1) * 2 + (xs.drop (i * 2)).length)).drop ((i + 1) * 2))).toArray = w7 at hcp hs7 hs8
      have hR' := hR.out _ _ ⟨by simp, hs8⟩
      clear hs7 hs8 hR hl3 hK6 hfy X1 X2
      try simp only [Nat.mul_one] at hcp
      go_wp2_with (refine wpList_copy_run rfl _ _ _ _ rfl _ _ rfl rfl _ _ hcp ?_)
      try go_ret
      exact hR'
    · -- there is none: a new array
      have hfx : firsts Try.prog w 2 i (.slice (some ⟨g, 0, none⟩) i cap) (xs.take (i * 2)) := firsts_some (by simp; omega) fun j x hj => by
        rw [add_lit, Nat.zero_add]
        exact row_cell hp.block c4 _ _ (by rw [List.getElem?_take] at hj; split at hj; exact hj; cases hj)
      obtain ⟨cap', cur', w1, hr, d1, d2, d3, d4, hs1, hk⟩ := append_zeros (tn := 3) el Try.underlying3 29 hp (some ⟨g, 0, none⟩) cap hfx (by simp; omega) (n + 1 - i) (by omega) (by omega) (by unfold maxLen; omega) (by omega)
      rw [show i + (n + 1 - i) = n + 1 by omega] at hr d1
      have hcl' : cur'.toList.length = cur'.size := Array.length_toList
      have hr' : (Builtin.append_ #[29, 3] 29 #[.slice (some ⟨g, 0, none⟩) i cap, .int .i64 ((n : Int) + 1 - i)]).run Try.prog w = .ok (.slice (some ⟨w.heap.size, 0, none⟩) (n + 1) cap') w1 := by
        rw [show ((n : Int) + 1 - i) = ((n + 1 - i : Nat) : Int) by omega]; exact hr
      have hw1 : g < w.heap.size := hp.lt
      have hfy1 : firsts Try.prog w1 2 1 (.slice (some ⟨b, 0, none⟩) 1 1) ys := by
        refine firsts_some hy fun j x hj => ?_
        rw [add_lit, cell_of_block (hs1.drop.drop.block)]
        simpa using hj
      have hcp := own_copy (P := Try.prog) (w := w1) (sz := 2) (dT := 29) (sT := 29) 3 Try.underlying29 el.hi el.size (i * 2) (n + 1 - i) (cap' - i) hs1.block (some ⟨b, 0, none⟩) 1 1 1 ys (show min _ _ = _ by omega) hy hfy1 h1 (by omega)
      have hs2 := hs1.setRow (cur'.toList.take (i * 2) ++ ys ++ cur'.toList.drop (i * 2 + ys.length)).toArray
      generalize hcur2 : (cur'.toList.take (i * 2) ++ ys ++ cur'.toList.drop (i * 2 + ys.length)) = cur2 at hcp hs2
      have hl2 : cur2.length = cur'.size := by rw [← hcur2]; simp; omega
      generalize w.heap.size = m at *
      generalize w1.setRow m cur2.toArray = w2 at *
      clear hr hs hfy hfy1 hk hfx
      have X1 := Lib.hid xcell
      have X2 := Lib.hid hdm
      have H2 := Lib.hid hcur2
      clear xcell hdm hcur2
      go_enter Try.func52, Try.ntmps52
      try simp only [Nat.mul_one] at hcp
      try simp only [Nat.mul_one] at hr'
      go_wp2_with (first | (at_builtin; refine Lib.wpList_append_run _ rfl _ _ _ _ rfl _ _ rfl rfl _ _ hr' ?_) | (refine wpList_copy_run rfl _ _ _ _ rfl _ _ rfl rfl _ _ hcp ?_))
      refine wp_draw_lit [(0,3),(1,3),(2,3),(3,3),(4,3),(5,3),(6,3),(7,3),(8,2)] (fun w' => sat E w' (pts m (.cells cur2.toArray 35 (0, 0)) * (pts g (.cells cur 35 (0, 0)) * (pts b (.cells ys.toArray 35 (0, 0)) * A)))) (by kernel_rfl) (by kernel_rfl) rfl hs2.drew ?_
      clear hs2 hcp hr' hs1
      iterate 8 (refine wpD_pure _ rfl rfl rfl ?_; apply Exists.intro; refine ⟨fun w' => ?_, ?_, ?_⟩; (go_wp2; exact ⟨rfl, rfl, rfl⟩); rfl)
      refine wpD_does (by decide) rfl rfl (fun Nx hNx w' hK => ?_)
      have hcp := own_copy (P := Try.prog) (w := w') (sz := 2) (dT := 29) (sT := 29) 3 Try.underlying29 el.hi el.size ((i + 1) * 2) (n - i) (cap' - (i + 1)) hK.block (some ⟨g, i * 2, none⟩) (n - i) (cap - i) (n - i) (xs.drop (i * 2)) (show min _ _ = _ by omega) hld (X1.out w' _ (hK.to (sep_left_comm _ _ _))) X2.out (by simp only [List.size_toArray, hld]; omega)
      simp only [List.toList_toArray] at hcp
      have hs5 := hK.setRow (cur2.take ((i + 1) * 2) ++ xs.drop (i * 2) ++ cur2.drop ((i + 1) * 2 + (xs.drop (i * 2)).length)).toArray
      have hl3 := ins_grow cur'.toList xs ys (i * 2) 2 (n * 2) (by omega) d4 hlx hy (by rw [hcl']; omega)
      rw [H2.out, show i * 2 + 2 = (i + 1) * 2 by omega] at hl3
      have hs8 := hs5.mk_row (n := n + 1) (sz := 2) (xs := xs.take (i * 2) ++ ys ++ xs.drop (i * 2)) (cap := cap') (by simp only [List.length_append, List.length_take, List.length_drop, hlx, hy]; omega) d1 d2
        (by simp only [List.size_toArray, List.length_append, List.length_take, List.length_drop, hl2, hlx]; omega) (by rw [show (n + 1) * 2 = n * 2 + 2 by omega]; exact hl3)
      clear hs5 hl3 hK X1 X2
      generalize w'.setRow m (cur2.take ((i + 1) * 2) ++ xs.drop (i * 2) ++ cur2.drop ((i + 1) * 2 + (xs.drop (i * 2)).length)).toArray = w2 at hcp hs8
      try simp only [Nat.mul_one] at hcp
      go_wp2_with (refine wpList_copy_run rfl _ _ _ _ rfl _ _ rfl rfl _ _ hcp ?_)
      refine ⟨rfl, (fun x => sat E x _), hs8, fun h => (by cases h), hNx _ _ ?_⟩
      clear hs8 hNx hcp
      refine wpD_nil (fun w6 hK6 => ?_)
      have hR' := hR.out _ _ ⟨by simp, (hK6.to (sep_left_comm _ _ _)).drop⟩
      clear hR hK6
      go_wp2
      try go_ret
      exact hR'

set_option maxHeartbeats 2000000 in
set_option maxRecDepth 100000 in
/-- elements are taken out of an owned slice -/
theorem delEnt (E : Env) (w : World) (A : Asn) (v : Value) (n : Nat) (xs : List Value) (i j : Nat) (hij : i < j) (hj : j ≤ n) (hn : n ≤ 100000) (hs : sat E w (row 35 2 v n xs * A))
    (h2 : ∀ u ∈ xs, u.oneCell' = true) :
    Calls Try.prog 47 #[v, .int .i64 i, .int .i64 j] w (Ret fun v' w' => v' ≠ .slice none 0 0 ∧ sat E w' (row 35 2 v' (n - (j - i)) (xs.take (i * 2) ++ xs.drop (j * 2)) * A)) := by
  obtain ⟨i0, el⟩ := elEnt
  have hlx := hs.row.1
  obtain ⟨_, ⟨rfl, rfl, hA⟩ | ⟨g, cap, cur, rfl, c1, c2, c3, c4, hp⟩⟩ := hs.row
  · omega
  have hcl : cur.toList.length = cur.size := Array.length_toList
  have hld : (xs.drop (j * 2)).length = (n - j) * 2 := by simp; omega
  have hdm : ∀ u ∈ xs.drop (j * 2), u.oneCell' = true := fun u hu => h2 u (List.mem_of_mem_drop hu)
  have xcell : ∀ (w' : World) (ad : Addr), sat E w' (pts g (.cells cur 35 (0, 0)) * A) → (ad = ⟨g, j * 2, none⟩ ∨ n - j = 0) → firsts Try.prog w' 2 (n - j) (.slice (some ad) (n - j) (cap - j)) (xs.drop (j * 2)) := by
    rintro w' ad hp (rfl | h0)
    · exact firsts_some hld fun k x hk => by
        rw [add_lit]
        exact row_cell hp.block c4 _ _ (by rw [← List.getElem?_drop]; exact hk)
    · have : xs.drop (j * 2) = [] := List.eq_nil_of_length_eq_zero (by rw [hld]; omega)
      rw [this, h0]
      exact firsts_zero
  refine ret_hide fun R hR => ?_
  have X := Lib.hid xcell
  have X2 := Lib.hid hdm
  have X3 := Lib.hid hld
  clear xcell hdm hld hs
  by_cases hjn : j = n
  · subst hjn
    clear X X2 X3
    by_cases hcj : j = cap
    · subst hcj
      go_enter Try.func47, Try.ntmps47
      go_wp2
      refine wp_draw_lit [(0,3),(1,3),(2,3),(3,3),(4,3),(5,3),(6,2),(7,3)] (fun w' => sat E w' (pts g (.cells cur 35 (0, 0)) * A)) (by kernel_rfl) (by kernel_rfl) rfl hp.drew ?_
      iterate 6 (refine wpD_pure _ rfl rfl rfl ?_; apply Exists.intro; refine ⟨fun w' => ?_, ?_, ?_⟩; (go_wp2; exact ⟨rfl, rfl, rfl⟩); rfl)
      refine wpD_does (by decide) rfl rfl (fun Nx hNx w' hK => ?_)
      have hrow := hK.mk_row (n := i) (sz := 2) (xs := xs.take (i * 2)) (cap := j) (by simp; omega) (by omega) c2 c3 (by rw [← c4, List.take_take, Nat.min_eq_left (by omega)])
      clear hK
      go_wp2_with fail
      refine ⟨rfl, (fun x => sat E x _), hrow, fun h => (by cases h), hNx _ _ ?_⟩
      clear hrow hNx
      iterate 1 (refine wpD_pure _ rfl rfl rfl ?_; apply Exists.intro; refine ⟨fun w' => ?_, ?_, ?_⟩; (go_wp2; exact ⟨rfl, rfl, rfl⟩); rfl)
      refine wpD_nil (fun w6 hK6 => ?_)
      obtain ⟨hl7, ⟨hb, _⟩ | ⟨g', cap', cur7, hv, d1, d2, d3, d4, hp7⟩⟩ := hK6.row
      · cases hb
      injection hv with e1 _ e3
      injection e1 with e1
      injection e1 with e1
      subst e1
      subst e3
      have hcl7 : cur7.toList.length = cur7.size := Array.length_toList
      have hcr := own_clear (P := Try.prog) (w := w6) el 0 (i * 2) (j - i) (j - i) (by omega) hp7.block (zerosEnt_one _) (by omega)
      have hs8 := (hp7.setRow (cur7.toList.take (i * 2) ++ zeros zEnt (j - i) ++ cur7.toList.drop (i * 2 + (j - i) * 2)).toArray).mk_row (n := i) (sz := 2) (xs := xs.take (i * 2)) (cap := j) hl7 (by omega) c2
        (by simp only [List.size_toArray, List.length_append, List.length_take, List.length_drop, hcl7, zeros_length, show (zEnt).cells.size = 2 from rfl]; omega) (by rw [List.append_assoc, List.take_append_of_le_length (by simp; omega), List.take_take, Nat.min_self, d4])
      generalize w6.setRow g (cur7.toList.take (i * 2) ++ zeros zEnt (j - i) ++ cur7.toList.drop (i * 2 + (j - i) * 2)).toArray = w9 at hcr hs8
      have hR' := hR.out (.slice (some ⟨g, 0, none⟩) i j) _ ⟨by simp, by rw [List.drop_eq_nil_of_le (by omega), List.append_nil, show j - (j - i) = i by omega]; exact hs8⟩
      clear hs8 hR hp7 hK6 d4 hl7
      try simp only [Nat.mul_one] at hcr
      go_wp2_with (refine wpList_clear_run rfl _ _ rfl _ rfl _ _ hcr ?_)
      try go_ret
      exact hR'
    · go_enter Try.func47, Try.ntmps47
      go_wp2
      refine wp_draw_lit [(0,3),(1,3),(2,3),(3,3),(4,3),(5,3),(6,2),(7,3)] (fun w' => sat E w' (pts g (.cells cur 35 (0, 0)) * A)) (by kernel_rfl) (by kernel_rfl) rfl hp.drew ?_
      iterate 6 (refine wpD_pure _ rfl rfl rfl ?_; apply Exists.intro; refine ⟨fun w' => ?_, ?_, ?_⟩; (go_wp2; exact ⟨rfl, rfl, rfl⟩); rfl)
      refine wpD_does (by decide) rfl rfl (fun Nx hNx w' hK => ?_)
      have hrow := hK.mk_row (n := i) (sz := 2) (xs := xs.take (i * 2)) (cap := cap) (by simp; omega) (by omega) c2 c3 (by rw [← c4, List.take_take, Nat.min_eq_left (by omega)])
      clear hK
      go_wp2_with fail
      refine ⟨rfl, (fun x => sat E x _), hrow, fun h => (by cases h), hNx _ _ ?_⟩
      clear hrow hNx
      iterate 1 (refine wpD_pure _ rfl rfl rfl ?_; apply Exists.intro; refine ⟨fun w' => ?_, ?_, ?_⟩; (go_wp2; exact ⟨rfl, rfl, rfl⟩); rfl)
      refine wpD_nil (fun w6 hK6 => ?_)
      obtain ⟨hl7, ⟨hb, _⟩ | ⟨g', cap', cur7, hv, d1, d2, d3, d4, hp7⟩⟩ := hK6.row
      · cases hb
      injection hv with e1 _ e3
      injection e1 with e1
      injection e1 with e1
      subst e1
      subst e3
      have hcl7 : cur7.toList.length = cur7.size := Array.length_toList
      have hcr := own_clear (P := Try.prog) (w := w6) el 0 (i * 2) (j - i) (cap - i) (by omega) hp7.block (zerosEnt_one _) (by omega)
      have hs8 := (hp7.setRow (cur7.toList.take (i * 2) ++ zeros zEnt (j - i) ++ cur7.toList.drop (i * 2 + (j - i) * 2)).toArray).mk_row (n := i) (sz := 2) (xs := xs.take (i * 2)) (cap := cap) hl7 (by omega) c2
        (by simp only [List.size_toArray, List.length_append, List.length_take, List.length_drop, hcl7, zeros_length, show (zEnt).cells.size = 2 from rfl]; omega) (by rw [List.append_assoc, List.take_append_of_le_length (by simp; omega), List.take_take, Nat.min_self, d4])
      generalize w6.setRow g (cur7.toList.take (i * 2) ++ zeros zEnt (j - i) ++ cur7.toList.drop (i * 2 + (j - i) * 2)).toArray = w9 at hcr hs8
      have hR' := hR.out (.slice (some ⟨g, 0, none⟩) i cap) _ ⟨by simp, by rw [List.drop_eq_nil_of_le (by omega), List.append_nil, show j - (j - i) = i by omega]; exact hs8⟩
      clear hs8 hR hp7 hK6 d4 hl7
      try simp only [Nat.mul_one] at hcr
      go_wp2_with (refine wpList_clear_run rfl _ _ rfl _ rfl _ _ hcr ?_)
      try go_ret
      exact hR'
  · have hcj : j < cap := by omega
    go_enter Try.func47, Try.ntmps47
    go_wp2
    refine wp_draw_lit [(0,3),(1,3),(2,3),(3,3),(4,3),(5,3),(6,2),(7,3)] (fun w' => sat E w' (pts g (.cells cur 35 (0, 0)) * A)) (by kernel_rfl) (by kernel_rfl) rfl hp.drew ?_
    iterate 6 (refine wpD_pure _ rfl rfl rfl ?_; apply Exists.intro; refine ⟨fun w' => ?_, ?_, ?_⟩; (go_wp2; exact ⟨rfl, rfl, rfl⟩); rfl)
    refine wpD_does (by decide) rfl rfl (fun Nx hNx w' hK => ?_)
    have hrow := hK.mk_row (n := i) (sz := 2) (xs := xs.take (i * 2)) (cap := cap) (by simp; omega) (by omega) c2 c3 (by rw [← c4, List.take_take, Nat.min_eq_left (by omega)])
    obtain ⟨v', w2, hr, hs2, _, _, _, hroom⟩ := append_row el 29 hrow (some ⟨g, j * 2, none⟩) (n - j) (cap - j) (xs.drop (j * 2)) X3.out (X.out w' _ hK (.inl rfl)) X2.out (by unfold maxLen; omega) (by omega)
    have hv := hroom g cap rfl (by omega)
    clear hroom
    subst hv
    clear hrow hK
    try simp only [Nat.mul_one] at hr
    go_wp2_with (at_builtin; refine Lib.wpList_append_run _ rfl _ _ _ _ rfl _ _ rfl rfl _ _ hr ?_)
    refine ⟨rfl, (fun x => sat E x _), hs2, fun h => (by cases h), hNx _ _ ?_⟩
    clear hs2 hNx hr
    iterate 1 (refine wpD_pure _ rfl rfl rfl ?_; apply Exists.intro; refine ⟨fun w' => ?_, ?_, ?_⟩; (go_wp2; exact ⟨rfl, rfl, rfl⟩); rfl)
    refine wpD_nil (fun w6 hK6 => ?_)
    rw [show i + (n - j) = n - (j - i) by omega] at hK6 ⊢
    obtain ⟨hl7, ⟨hb, _⟩ | ⟨g', cap', cur7, hv, d1, d2, d3, d4, hp7⟩⟩ := hK6.row
    · cases hb
    injection hv with e1 _ e3
    injection e1 with e1
    injection e1 with e1
    subst e1
    subst e3
    have hcl7 : cur7.toList.length = cur7.size := Array.length_toList
    have hcr := own_clear (P := Try.prog) (w := w6) el 0 ((n - (j - i)) * 2) (n - (n - (j - i))) (cap - (n - (j - i))) (by omega) hp7.block (zerosEnt_one _) (by omega)
    have hs8 := (hp7.setRow (cur7.toList.take ((n - (j - i)) * 2) ++ zeros zEnt (n - (n - (j - i))) ++ cur7.toList.drop ((n - (j - i)) * 2 + (n - (n - (j - i))) * 2)).toArray).mk_row (n := n - (j - i)) (sz := 2) (xs := xs.take (i * 2) ++ xs.drop (j * 2)) (cap := cap) hl7 (by omega) c2
      (by simp only [List.size_toArray, List.length_append, List.length_take, List.length_drop, hcl7, zeros_length, show (zEnt).cells.size = 2 from rfl]; omega) (by rw [List.append_assoc, List.take_append_of_le_length (by simp; omega), List.take_take, Nat.min_self, d4])
    generalize w6.setRow g (cur7.toList.take ((n - (j - i)) * 2) ++ zeros zEnt (n - (n - (j - i))) ++ cur7.toList.drop ((n - (j - i)) * 2 + (n - (n - (j - i))) * 2)).toArray = w9 at hcr hs8
    have hR' := hR.out _ _ ⟨by simp, hs8⟩
    clear hs8 hR hp7 hK6 d4 hl7
    try simp only [Nat.mul_one] at hcr
    go_wp2_with (refine wpList_clear_run rfl _ _ rfl _ rfl _ _ hcr ?_)
    try go_ret
    exact hR'

theorem sizeOf55 (w : World) : (Go.sizeOf 55).run Try.prog w = .ok 1 w := by
  obtain ⟨i, el⟩ := elNode
  simp [Go.sizeOf, typeInfo, el.hi, el.size]

theorem ovlNode (w : World) (b g o la ca lb cb : Nat) (cb' cg : Array Value) (hne : b ≠ g) (hb : w.heap[b]? = some (.cells cb' 55 (0, 0))) (hg : w.heap[g]? = some (.cells cg 55 (0, 0))) (hc : cg.size ≠ 0) :
    (callFunc 67 #[.slice (some ⟨b, 0, none⟩) la ca, .slice (some ⟨g, o, none⟩) lb cb]).run Try.prog w = .ok (.value (.bool false)) w := by
  rw [run_callFunc_extern Try.func67 (by kernel_rfl) (by kernel_rfl) (by kernel_rfl) (e := Extern.SlicesOverlaps.overlaps #[62, 62] #[4]) (by kernel_rfl),
    Lib.run_overlaps_apart w 62 4 55 Try.underlying62 1 sizeOf55 ⟨b, 0, none⟩ ⟨g, o, none⟩ la ca lb cb hne 55 55 _ _ (shape_of_block hb) (shape_of_block hg) hc (frozen_of_block hb) (frozen_of_block hb)]
  rfl

set_option maxHeartbeats 2000000 in
set_option maxRecDepth 100000 in
/-- one element is put into an owned slice -/
theorem insNode (E : Env) (w : World) (A : Asn) (v : Value) (n : Nat) (xs ys : List Value) (i b : Nat) (hi : i ≤ n) (hn : n ≤ 100000) (hs : sat E w (row 55 1 v n xs * (pts b (.cells ys.toArray 55 (0, 0)) * A)))
    (hy : ys.length = 1) (h1 : ∀ u ∈ ys, u.oneCell' = true) (h2 : ∀ u ∈ xs, u.oneCell' = true) :
    Calls Try.prog 53 #[v, .int .i64 i, .slice (some ⟨b, 0, none⟩) 1 1] w (Ret fun v' w' => v' ≠ .slice none 0 0 ∧ sat E w' (row 55 1 v' (n + 1) (xs.take (i * 1) ++ ys ++ xs.drop (i * 1)) * (pts b (.cells ys.toArray 55 (0, 0)) * A))) := by
  obtain ⟨i0, el⟩ := elNode
  have hfy : firsts Try.prog w 1 1 (.slice (some ⟨b, 0, none⟩) 1 1) ys := by
    refine firsts_some hy fun j x hj => ?_
    rw [add_lit, cell_of_block (hs.drop.block)]
    simpa using hj
  refine ret_hide fun R hR => ?_
  by_cases hin : i = n
  · -- behind the last one
    subst hin
    obtain ⟨v', w', hr, hs2, hnil, _⟩ := append_row el 62 hs (some ⟨b, 0, none⟩) 1 1 ys hy hfy h1 (by unfold maxLen; omega) (by omega)
    have hlx := hs.row.1
    have hx : xs.take (i * 1) = xs := List.take_of_length_le (by omega)
    have hx' : xs.drop (i * 1) = [] := List.drop_eq_nil_of_le (by omega)
    have hs3 : sat E w' (row 55 1 v' (i + 1) (xs.take (i * 1) ++ ys ++ xs.drop (i * 1)) * (pts b (.cells ys.toArray 55 (0, 0)) * A)) := by rw [hx, hx', List.append_nil]; exact hs2
    have hnil : v' ≠ .slice none 0 0 := by simpa using hnil
    have hR' := hR.out _ _ ⟨hnil, hs3⟩
    clear hs2 hs3 hx hx' hlx hR
    obtain ⟨_, ⟨rfl, rfl, hA⟩ | ⟨g, cap, cur, rfl, c1, c2, c3, c4, hp⟩⟩ := hs.row
    all_goals
      clear el hs
      go_enter Try.func53, Try.ntmps53
      try simp only [Nat.mul_one] at hr
      go_wp2_with (at_builtin; refine Lib.wpList_append_run _ rfl _ _ _ _ rfl _ _ rfl rfl _ _ hr ?_)
      all_goals
        try go_ret
        exact hR'
  · have hlx := hs.row.1
    obtain ⟨_, ⟨rfl, rfl, hA⟩ | ⟨g, cap, cur, rfl, c1, c2, c3, c4, hp⟩⟩ := hs.row
    · omega
    have hcl : cur.toList.length = cur.size := Array.length_toList
    have hld : (xs.drop (i * 1)).length = (n - i) * 1 := by simp; omega
    have hdm : ∀ u ∈ xs.drop (i * 1), u.oneCell' = true := fun u hu => h2 u (List.mem_of_mem_drop hu)
    have xcell : ∀ (w' : World) (B : Asn), sat E w' (pts g (.cells cur 55 (0, 0)) * B) → firsts Try.prog w' 1 (n - i) (.slice (some ⟨g, i * 1, none⟩) (n - i) (cap - i)) (xs.drop (i * 1)) := fun w' B h => firsts_some hld fun j x hj => by
      rw [add_lit]
      exact row_cell h.block c4 _ _ (by rw [← List.getElem?_drop]; exact hj)
    by_cases hroom : n + 1 ≤ cap
    · -- there is room
      have hb := (hp.to (sep_left_comm _ _ _)).block
      have hg := hp.block
      have hne : b ≠ g := (hp.to (sep_left_comm _ _ _)).ne
      have ho := fun o la ca lb cb => ovlNode w b g o la ca lb cb _ _ hne hb hg (by omega)
      clear hb hg hs hfy
      have xcell1 : ∀ (w' : World) (B : Asn), sat E w' (pts g (.cells cur 55 (0, 0)) * B) → firsts Try.prog w' 1 (n - i) (.slice (some ⟨g, i * 1, none⟩) (n + 1 - i) (cap - i)) (xs.drop (i * 1)) := fun w' B h => firsts_some hld fun j x hj => by
        rw [add_lit]
        exact row_cell h.block c4 _ _ (by rw [← List.getElem?_drop]; exact hj)
      have X1 := Lib.hid xcell1
      have X2 := Lib.hid hdm
      clear xcell xcell1 hdm
      go_enter Try.func53, Try.ntmps53
      go_wp2_with fail
      refine wp_draw_lit [(0,3),(1,3),(2,3),(3,3),(4,3),(5,3),(6,3),(7,3),(8,2)] (fun w' => sat E w' (pts g (.cells cur 55 (0, 0)) * (pts b (.cells ys.toArray 55 (0, 0)) * A))) (by kernel_rfl) (by kernel_rfl) rfl hp.drew ?_
      iterate 8 (refine wpD_pure _ rfl rfl rfl ?_; apply Exists.intro; refine ⟨fun w' => ?_, ?_, ?_⟩; (go_wp2; exact ⟨rfl, rfl, rfl⟩); rfl)
      refine wpD_does (by decide) rfl rfl (fun Nx hNx w' hK => ?_)
      have hcp := own_copy (P := Try.prog) (w := w') (sz := 1) (dT := 62) (sT := 62) 3 Try.underlying62 el.hi el.size ((i + 1) * 1) (n - i) (cap - (i + 1)) hK.block (some ⟨g, i * 1, none⟩) (n + 1 - i) (cap - i) (n - i) (xs.drop (i * 1)) (show min _ _ = _ by omega) hld (X1.out w' _ hK) X2.out (by rw [hld]; omega)
      have hs5 := hK.setRow (cur.toList.take ((i + 1) * 1) ++ xs.drop (i * 1) ++ cur.toList.drop ((i + 1) * 1 + (xs.drop (i * 1)).length)).toArray
      generalize w'.setRow g (cur.toList.take ((i + 1) * 1) ++ xs.drop (i * 1) ++ cur.toList.drop ((i + 1) * 1 + (xs.drop (i * 1)).length)).toArray = w2 at hcp hs5
      try simp only [Nat.mul_one] at hcp
      go_wp2_with (refine wpList_copy_run rfl _ _ _ _ rfl _ _ rfl rfl _ _ hcp ?_)
      refine ⟨rfl, (fun x => sat E x _), hs5, fun h => (by cases h), hNx _ _ ?_⟩
      clear hs5 hK hNx hcp
      refine wpD_nil (fun w6 hK6 => ?_)
      have hfy : firsts Try.prog w6 1 1 (.slice (some ⟨b, 0, none⟩) 1 1) ys := by
        refine firsts_some hy fun j x hj => ?_
        rw [add_lit, cell_of_block ((hK6.to (sep_left_comm _ _ _)).block)]
        simpa using hj
      have hcp := own_copy (P := Try.prog) (w := w6) (sz := 1) (dT := 62) (sT := 62) 3 Try.underlying62 el.hi el.size (i * 1) (n + 1 - i) (cap - i) hK6.block (some ⟨b, 0, none⟩) 1 1 1 ys (show min _ _ = _ by omega) hy hfy h1 (by simp only [List.size_toArray, List.length_append, List.length_take, List.length_drop, hcl, hlx, hy]; omega)
      have hs7 := hK6.setRow (((cur.toList.take ((i + 1) * 1) ++ xs.drop (i * 1) ++ cur.toList.drop ((i + 1) * 1 + (xs.drop (i * 1)).length)).take (i * 1) ++ ys ++ (cur.toList.take ((i + 1) * 1) ++ xs.drop (i * 1) ++ cur.toList.drop ((i + 1) * 1 + (xs.drop (i * 1)).length)).drop (i * 1 + ys.length))).toArray
      have hl3 := ins_room cur.toList xs ys (i * 1) 1 (n * 1) (by omega) c4 hlx hy (by rw [hcl]; omega)
      rw [show i * 1 + 1 = (i + 1) * 1 by omega] at hl3
      rw [show i * 1 + ys.length = (i + 1) * 1 by omega] at hs7
      have hs8 := hs7.mk_row (n := n + 1) (sz := 1) (xs := xs.take (i * 1) ++ ys ++ xs.drop (i * 1)) (cap := cap) (by simp only [List.length_append, List.length_take, List.length_drop, hlx, hy]; omega) hroom c2
        (by simp only [List.size_toArray, List.length_append, List.length_take, List.length_drop, hcl, hlx, hy]; omega) (by rw [show (n + 1) * 1 = n * 1 + 1 by omega]; exact hl3)
      rw [show i * 1 + ys.length = (i + 1) * 1 by omega] at hcp
      simp only [List.toList_toArray] at hcp
      generalize w6.setRow g (((cur.toList.take ((i + 1) * 1) ++ xs.drop (i * 1) ++ cur.toList.drop ((i + 1) * 1 + (xs.drop (i * 1)).length)).take (i * 1) ++ ys ++ (cur.toList.take ((i + 1) * 1) ++ xs.drop (i * 1) ++ cur.toList.drop ((i + 1) * 1 + (xs.drop (i * 1)).length)).drop ((i + 1) * 1))).toArray = w7 at hcp hs7 hs8
      have hR' := hR.out _ _ ⟨by simp, hs8⟩
      clear hs7 hs8 hR hl3 hK6 hfy X1 X2
      try simp only [Nat.mul_one] at hcp
      go_wp2_with (refine wpList_copy_run rfl _ _ _ _ rfl _ _ rfl rfl _ _ hcp ?_)
      try go_ret
      exact hR'
    · -- there is none: a new array
      have hfx : firsts Try.prog w 1 i (.slice (some ⟨g, 0, none⟩) i cap) (xs.take (i * 1)) := firsts_some (by simp; omega) fun j x hj => by
        rw [add_lit, Nat.zero_add]
        exact row_cell hp.block c4 _ _ (by rw [List.getElem?_take] at hj; split at hj; exact hj; cases hj)
      obtain ⟨cap', cur', w1, hr, d1, d2, d3, d4, hs1, hk⟩ := append_zeros (tn := 3) el Try.underlying3 62 hp (some ⟨g, 0, none⟩) cap hfx (by simp; omega) (n + 1 - i) (by omega) (by omega) (by unfold maxLen; omega) (by omega)
      rw [show i + (n + 1 - i) = n + 1 by omega] at hr d1
      have hcl' : cur'.toList.length = cur'.size := Array.length_toList
      have hr' : (Builtin.append_ #[62, 3] 62 #[.slice (some ⟨g, 0, none⟩) i cap, .int .i64 ((n : Int) + 1 - i)]).run Try.prog w = .ok (.slice (some ⟨w.heap.size, 0, none⟩) (n + 1) cap') w1 := by
        rw [show ((n : Int) + 1 - i) = ((n + 1 - i : Nat) : Int) by omega]; exact hr
      have hw1 : g < w.heap.size := hp.lt
      have hfy1 : firsts Try.prog w1 1 1 (.slice (some ⟨b, 0, none⟩) 1 1) ys := by
        refine firsts_some hy fun j x hj => ?_
        rw [add_lit, cell_of_block (hs1.drop.drop.block)]
        simpa using hj
      have hcp := own_copy (P := Try.prog) (w := w1) (sz := 1) (dT := 62) (sT := 62) 3 Try.underlying62 el.hi el.size (i * 1) (n + 1 - i) (cap' - i) hs1.block (some ⟨b, 0, none⟩) 1 1 1 ys (show min _ _ = _ by omega) hy hfy1 h1 (by omega)
      have hs2 := hs1.setRow (cur'.toList.take (i * 1) ++ ys ++ cur'.toList.drop (i * 1 + ys.length)).toArray
      generalize hcur2 : (cur'.toList.take (i * 1) ++ ys ++ cur'.toList.drop (i * 1 + ys.length)) = cur2 at hcp hs2
      have hl2 : cur2.length = cur'.size := by rw [← hcur2]; simp; omega
      generalize w.heap.size = m at *
      generalize w1.setRow m cur2.toArray = w2 at *
      clear hr hs hfy hfy1 hk hfx
      have X1 := Lib.hid xcell
      have X2 := Lib.hid hdm
      have H2 := Lib.hid hcur2
      clear xcell hdm hcur2
      go_enter Try.func53, Try.ntmps53
      try simp only [Nat.mul_one] at hcp
      try simp only [Nat.mul_one] at hr'
      go_wp2_with (first | (at_builtin; refine Lib.wpList_append_run _ rfl _ _ _ _ rfl _ _ rfl rfl _ _ hr' ?_) | (refine wpList_copy_run rfl _ _ _ _ rfl _ _ rfl rfl _ _ hcp ?_))
      refine wp_draw_lit [(0,3),(1,3),(2,3),(3,3),(4,3),(5,3),(6,3),(7,3),(8,2)] (fun w' => sat E w' (pts m (.cells cur2.toArray 55 (0, 0)) * (pts g (.cells cur 55 (0, 0)) * (pts b (.cells ys.toArray 55 (0, 0)) * A)))) (by kernel_rfl) (by kernel_rfl) rfl hs2.drew ?_
      clear hs2 hcp hr' hs1
      iterate 8 (refine wpD_pure _ rfl rfl rfl ?_; apply Exists.intro; refine ⟨fun w' => ?_, ?_, ?_⟩; (go_wp2; exact ⟨rfl, rfl, rfl⟩); rfl)
      refine wpD_does (by decide) rfl rfl (fun Nx hNx w' hK => ?_)
      have hcp := own_copy (P := Try.prog) (w := w') (sz := 1) (dT := 62) (sT := 62) 3 Try.underlying62 el.hi el.size ((i + 1) * 1) (n - i) (cap' - (i + 1)) hK.block (some ⟨g, i * 1, none⟩) (n - i) (cap - i) (n - i) (xs.drop (i * 1)) (show min _ _ = _ by omega) hld (X1.out w' _ (hK.to (sep_left_comm _ _ _))) X2.out (by simp only [List.size_toArray, hld]; omega)
      simp only [List.toList_toArray] at hcp
      have hs5 := hK.setRow (cur2.take ((i + 1) * 1) ++ xs.drop (i * 1) ++ cur2.drop ((i + 1) * 1 + (xs.drop (i * 1)).length)).toArray
      have hl3 := ins_grow cur'.toList xs ys (i * 1) 1 (n * 1) (by omega) d4 hlx hy (by rw [hcl']; omega)
      rw [H2.out, show i * 1 + 1 = (i + 1) * 1 by omega] at hl3
      have hs8 := hs5.mk_row (n := n + 1) (sz := 1) (xs := xs.take (i * 1) ++ ys ++ xs.drop (i * 1)) (cap := cap') (by simp only [List.length_append, List.length_take, List.length_drop, hlx, hy]; omega) d1 d2
        (by simp only [List.size_toArray, List.length_append, List.length_take, List.length_drop, hl2, hlx]; omega) (by rw [show (n + 1) * 1 = n * 1 + 1 by omega]; exact hl3)
      clear hs5 hl3 hK X1 X2
      generalize w'.setRow m (cur2.take ((i + 1) * 1) ++ xs.drop (i * 1) ++ cur2.drop ((i + 1) * 1 + (xs.drop (i * 1)).length)).toArray = w2 at hcp hs8
      try simp only [Nat.mul_one] at hcp
      go_wp2_with (refine wpList_copy_run rfl _ _ _ _ rfl _ _ rfl rfl _ _ hcp ?_)
      refine ⟨rfl, (fun x => sat E x _), hs8, fun h => (by cases h), hNx _ _ ?_⟩
      clear hs8 hNx hcp
      refine wpD_nil (fun w6 hK6 => ?_)
      have hR' := hR.out _ _ ⟨by simp, (hK6.to (sep_left_comm _ _ _)).drop⟩
      clear hR hK6
      go_wp2
      try go_ret
      exact hR'

set_option maxHeartbeats 2000000 in
set_option maxRecDepth 100000 in
/-- elements are taken out of an owned slice -/
theorem delNode (E : Env) (w : World) (A : Asn) (v : Value) (n : Nat) (xs : List Value) (i j : Nat) (hij : i < j) (hj : j ≤ n) (hn : n ≤ 100000) (hs : sat E w (row 55 1 v n xs * A))
    (h2 : ∀ u ∈ xs, u.oneCell' = true) :
    Calls Try.prog 73 #[v, .int .i64 i, .int .i64 j] w (Ret fun v' w' => v' ≠ .slice none 0 0 ∧ sat E w' (row 55 1 v' (n - (j - i)) (xs.take (i * 1) ++ xs.drop (j * 1)) * A)) := by
  obtain ⟨i0, el⟩ := elNode
  have hlx := hs.row.1
  obtain ⟨_, ⟨rfl, rfl, hA⟩ | ⟨g, cap, cur, rfl, c1, c2, c3, c4, hp⟩⟩ := hs.row
  · omega
  have hcl : cur.toList.length = cur.size := Array.length_toList
  have hld : (xs.drop (j * 1)).length = (n - j) * 1 := by simp; omega
  have hdm : ∀ u ∈ xs.drop (j * 1), u.oneCell' = true := fun u hu => h2 u (List.mem_of_mem_drop hu)
  have xcell : ∀ (w' : World) (ad : Addr), sat E w' (pts g (.cells cur 55 (0, 0)) * A) → (ad = ⟨g, j * 1, none⟩ ∨ n - j = 0) → firsts Try.prog w' 1 (n - j) (.slice (some ad) (n - j) (cap - j)) (xs.drop (j * 1)) := by
    rintro w' ad hp (rfl | h0)
    · exact firsts_some hld fun k x hk => by
        rw [add_lit]
        exact row_cell hp.block c4 _ _ (by rw [← List.getElem?_drop]; exact hk)
    · have : xs.drop (j * 1) = [] := List.eq_nil_of_length_eq_zero (by rw [hld]; omega)
      rw [this, h0]
      exact firsts_zero
  refine ret_hide fun R hR => ?_
  have X := Lib.hid xcell
  have X2 := Lib.hid hdm
  have X3 := Lib.hid hld
  clear xcell hdm hld hs
  by_cases hjn : j = n
  · subst hjn
    clear X X2 X3
    by_cases hcj : j = cap
    · subst hcj
      go_enter Try.func73, Try.ntmps73
      go_wp2
      refine wp_draw_lit [(0,3),(1,3),(2,3),(3,3),(4,3),(5,3),(6,2),(7,3)] (fun w' => sat E w' (pts g (.cells cur 55 (0, 0)) * A)) (by kernel_rfl) (by kernel_rfl) rfl hp.drew ?_
      iterate 6 (refine wpD_pure _ rfl rfl rfl ?_; apply Exists.intro; refine ⟨fun w' => ?_, ?_, ?_⟩; (go_wp2; exact ⟨rfl, rfl, rfl⟩); rfl)
      refine wpD_does (by decide) rfl rfl (fun Nx hNx w' hK => ?_)
      have hrow := hK.mk_row (n := i) (sz := 1) (xs := xs.take (i * 1)) (cap := j) (by simp; omega) (by omega) c2 c3 (by rw [← c4, List.take_take, Nat.min_eq_left (by omega)])
      clear hK
      go_wp2_with fail
      refine ⟨rfl, (fun x => sat E x _), hrow, fun h => (by cases h), hNx _ _ ?_⟩
      clear hrow hNx
      iterate 1 (refine wpD_pure _ rfl rfl rfl ?_; apply Exists.intro; refine ⟨fun w' => ?_, ?_, ?_⟩; (go_wp2; exact ⟨rfl, rfl, rfl⟩); rfl)
      refine wpD_nil (fun w6 hK6 => ?_)
      obtain ⟨hl7, ⟨hb, _⟩ | ⟨g', cap', cur7, hv, d1, d2, d3, d4, hp7⟩⟩ := hK6.row
      · cases hb
      injection hv with e1 _ e3
      injection e1 with e1
      injection e1 with e1
      subst e1
      subst e3
      have hcl7 : cur7.toList.length = cur7.size := Array.length_toList
      have hcr := own_clear (P := Try.prog) (w := w6) el 0 (i * 1) (j - i) (j - i) (by omega) hp7.block (zerosNode_one _) (by omega)
      have hs8 := (hp7.setRow (cur7.toList.take (i * 1) ++ zeros (Value.pointer none) (j - i) ++ cur7.toList.drop (i * 1 + (j - i) * 1)).toArray).mk_row (n := i) (sz := 1) (xs := xs.take (i * 1)) (cap := j) hl7 (by omega) c2
        (by simp only [List.size_toArray, List.length_append, List.length_take, List.length_drop, hcl7, zeros_length, show ((Value.pointer none)).cells.size = 1 from rfl]; omega) (by rw [List.append_assoc, List.take_append_of_le_length (by simp; omega), List.take_take, Nat.min_self, d4])
      generalize w6.setRow g (cur7.toList.take (i * 1) ++ zeros (Value.pointer none) (j - i) ++ cur7.toList.drop (i * 1 + (j - i) * 1)).toArray = w9 at hcr hs8
      have hR' := hR.out (.slice (some ⟨g, 0, none⟩) i j) _ ⟨by simp, by rw [List.drop_eq_nil_of_le (by omega), List.append_nil, show j - (j - i) = i by omega]; exact hs8⟩
      clear hs8 hR hp7 hK6 d4 hl7
      try simp only [Nat.mul_one] at hcr
      go_wp2_with (refine wpList_clear_run rfl _ _ rfl _ rfl _ _ hcr ?_)
      try go_ret
      exact hR'
    · go_enter Try.func73, Try.ntmps73
      go_wp2
      refine wp_draw_lit [(0,3),(1,3),(2,3),(3,3),(4,3),(5,3),(6,2),(7,3)] (fun w' => sat E w' (pts g (.cells cur 55 (0, 0)) * A)) (by kernel_rfl) (by kernel_rfl) rfl hp.drew ?_
      iterate 6 (refine wpD_pure _ rfl rfl rfl ?_; apply Exists.intro; refine ⟨fun w' => ?_, ?_, ?_⟩; (go_wp2; exact ⟨rfl, rfl, rfl⟩); rfl)
      refine wpD_does (by decide) rfl rfl (fun Nx hNx w' hK => ?_)
      have hrow := hK.mk_row (n := i) (sz := 1) (xs := xs.take (i * 1)) (cap := cap) (by simp; omega) (by omega) c2 c3 (by rw [← c4, List.take_take, Nat.min_eq_left (by omega)])
      clear hK
      go_wp2_with fail
      refine ⟨rfl, (fun x => sat E x _), hrow, fun h => (by cases h), hNx _ _ ?_⟩
      clear hrow hNx
      iterate 1 (refine wpD_pure _ rfl rfl rfl ?_; apply Exists.intro; refine ⟨fun w' => ?_, ?_, ?_⟩; (go_wp2; exact ⟨rfl, rfl, rfl⟩); rfl)
      refine wpD_nil (fun w6 hK6 => ?_)
      obtain ⟨hl7, ⟨hb, _⟩ | ⟨g', cap', cur7, hv, d1, d2, d3, d4, hp7⟩⟩ := hK6.row
      · cases hb
      injection hv with e1 _ e3
      injection e1 with e1
      injection e1 with e1
      subst e1
      subst e3
      have hcl7 : cur7.toList.length = cur7.size := Array.length_toList
      have hcr := own_clear (P := Try.prog) (w := w6) el 0 (i * 1) (j - i) (cap - i) (by omega) hp7.block (zerosNode_one _) (by omega)
      have hs8 := (hp7.setRow (cur7.toList.take (i * 1) ++ zeros (Value.pointer none) (j - i) ++ cur7.toList.drop (i * 1 + (j - i) * 1)).toArray).mk_row (n := i) (sz := 1) (xs := xs.take (i * 1)) (cap := cap) hl7 (by omega) c2
        (by simp only [List.size_toArray, List.length_append, List.length_take, List.length_drop, hcl7, zeros_length, show ((Value.pointer none)).cells.size = 1 from rfl]; omega) (by rw [List.append_assoc, List.take_append_of_le_length (by simp; omega), List.take_take, Nat.min_self, d4])
      generalize w6.setRow g (cur7.toList.take (i * 1) ++ zeros (Value.pointer none) (j - i) ++ cur7.toList.drop (i * 1 + (j - i) * 1)).toArray = w9 at hcr hs8
      have hR' := hR.out (.slice (some ⟨g, 0, none⟩) i cap) _ ⟨by simp, by rw [List.drop_eq_nil_of_le (by omega), List.append_nil, show j - (j - i) = i by omega]; exact hs8⟩
      clear hs8 hR hp7 hK6 d4 hl7
      try simp only [Nat.mul_one] at hcr
      go_wp2_with (refine wpList_clear_run rfl _ _ rfl _ rfl _ _ hcr ?_)
      try go_ret
      exact hR'
  · have hcj : j < cap := by omega
    go_enter Try.func73, Try.ntmps73
    go_wp2
    refine wp_draw_lit [(0,3),(1,3),(2,3),(3,3),(4,3),(5,3),(6,2),(7,3)] (fun w' => sat E w' (pts g (.cells cur 55 (0, 0)) * A)) (by kernel_rfl) (by kernel_rfl) rfl hp.drew ?_
    iterate 6 (refine wpD_pure _ rfl rfl rfl ?_; apply Exists.intro; refine ⟨fun w' => ?_, ?_, ?_⟩; (go_wp2; exact ⟨rfl, rfl, rfl⟩); rfl)
    refine wpD_does (by decide) rfl rfl (fun Nx hNx w' hK => ?_)
    have hrow := hK.mk_row (n := i) (sz := 1) (xs := xs.take (i * 1)) (cap := cap) (by simp; omega) (by omega) c2 c3 (by rw [← c4, List.take_take, Nat.min_eq_left (by omega)])
    obtain ⟨v', w2, hr, hs2, _, _, _, hroom⟩ := append_row el 62 hrow (some ⟨g, j * 1, none⟩) (n - j) (cap - j) (xs.drop (j * 1)) X3.out (X.out w' _ hK (.inl rfl)) X2.out (by unfold maxLen; omega) (by omega)
    have hv := hroom g cap rfl (by omega)
    clear hroom
    subst hv
    clear hrow hK
    try simp only [Nat.mul_one] at hr
    go_wp2_with (at_builtin; refine Lib.wpList_append_run _ rfl _ _ _ _ rfl _ _ rfl rfl _ _ hr ?_)
    refine ⟨rfl, (fun x => sat E x _), hs2, fun h => (by cases h), hNx _ _ ?_⟩
    clear hs2 hNx hr
    iterate 1 (refine wpD_pure _ rfl rfl rfl ?_; apply Exists.intro; refine ⟨fun w' => ?_, ?_, ?_⟩; (go_wp2; exact ⟨rfl, rfl, rfl⟩); rfl)
    refine wpD_nil (fun w6 hK6 => ?_)
    rw [show i + (n - j) = n - (j - i) by omega] at hK6 ⊢
    obtain ⟨hl7, ⟨hb, _⟩ | ⟨g', cap', cur7, hv, d1, d2, d3, d4, hp7⟩⟩ := hK6.row
    · cases hb
    injection hv with e1 _ e3
    injection e1 with e1
    injection e1 with e1
    subst e1
    subst e3
    have hcl7 : cur7.toList.length = cur7.size := Array.length_toList
    have hcr := own_clear (P := Try.prog) (w := w6) el 0 ((n - (j - i)) * 1) (n - (n - (j - i))) (cap - (n - (j - i))) (by omega) hp7.block (zerosNode_one _) (by omega)
    have hs8 := (hp7.setRow (cur7.toList.take ((n - (j - i)) * 1) ++ zeros (Value.pointer none) (n - (n - (j - i))) ++ cur7.toList.drop ((n - (j - i)) * 1 + (n - (n - (j - i))) * 1)).toArray).mk_row (n := n - (j - i)) (sz := 1) (xs := xs.take (i * 1) ++ xs.drop (j * 1)) (cap := cap) hl7 (by omega) c2
      (by simp only [List.size_toArray, List.length_append, List.length_take, List.length_drop, hcl7, zeros_length, show ((Value.pointer none)).cells.size = 1 from rfl]; omega) (by rw [List.append_assoc, List.take_append_of_le_length (by simp; omega), List.take_take, Nat.min_self, d4])
    generalize w6.setRow g (cur7.toList.take ((n - (j - i)) * 1) ++ zeros (Value.pointer none) (n - (n - (j - i))) ++ cur7.toList.drop ((n - (j - i)) * 1 + (n - (n - (j - i))) * 1)).toArray = w9 at hcr hs8
    have hR' := hR.out _ _ ⟨by simp, hs8⟩
    clear hs8 hR hp7 hK6 d4 hl7
    try simp only [Nat.mul_one] at hcr
    go_wp2_with (refine wpList_clear_run rfl _ _ rfl _ rfl _ _ hcr ?_)
    try go_ret
    exact hR'

end Go.Proofs.Ytmibiaakppkmmaa
