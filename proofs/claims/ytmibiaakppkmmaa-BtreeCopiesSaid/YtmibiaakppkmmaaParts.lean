/- BtreeParts: the walk. -/
import Derived.Test.YtmibiaakppkmmaaPlain1
namespace Go.Proofs.Ytmibiaakppkmmaa
open Go.RowKit Go.Sep
set_option linter.unusedVariables false
set_option linter.unusedSimpArgs false

theorem sameEntsE (E : Env) (w : World) (A : Asn) (r : Nat) (m : List KV) (v1 v2 : Value) (l1 l2 : List Ent) (hT : TreeE E w A r m) (h1 : Env.ents E v1 l1) (h2 : Env.ents E v2 l2) :
    Calls Try.prog 12 #[v1, v2] w (Ret fun v w' => v = .bool (decide (kvs l1 = kvs l2)) ∧ TreeE E w' A r m) := by
  obtain ⟨X, hs, hX⟩ := hT.frame
  refine (sameEnts E w X v1 v2 l1 l2 hs h1 h2).mono ?_
  rintro e w' ⟨v, he, hv, hs'⟩
  exact ⟨v, he, hv, hX _ _ (.refl E) hs'⟩

/-- two slices that are read, joined -/
theorem join_ents {E : Env} {w : World} {A : Asn} {r : Nat} {m : List KV} {v6 v7 : Value} {es6 es7 : List Ent} (hT : TreeE E w A r m) (h6 : Env.ents E v6 es6) (h7 : Env.ents E v7 es7) (hn : es6.length + es7.length ≤ 1000000) :
    ∃ v8 w8 v9 w9 E', (Builtin.append_ #[29, 29] 29 #[.slice (some ⟨w.heap.size, 0, none⟩) 0 0, v6]).run Try.prog (w.alloc (.cells #[] 35)) = .ok v8 w8 ∧ (Builtin.append_ #[29, 29] 29 #[v8, v7]).run Try.prog w8 = .ok v9 w9 ∧ E.le E' ∧ TreeE E' w9 A r m ∧ Env.ents E' v9 (es6 ++ es7) := by
  obtain ⟨X, hs, hX⟩ := hT.frame
  obtain ⟨i0, el⟩ := elEnt
  have hs1 := (hs.alloc (.cells #[] 35)).mk_new (n := 0) (sz := 2) rfl (by decide)
  obtain ⟨a6, c6, rfl, hf6⟩ := ents_firsts hs1 h6
  obtain ⟨v8, w8, hr8, hs8, hi8, hz8, _, _⟩ := append_row el 29 hs1 a6 _ c6 _ (entCells_length es6) hf6 (entCells_one h6.2.1) (by unfold maxLen; omega) (by omega)
  obtain ⟨a7, c7, rfl, hf7⟩ := ents_firsts hs8 h7
  obtain ⟨v9, w9, hr9, hs9, hi9, hz9, _, _⟩ := append_row el 29 hs8 a7 _ c7 _ (entCells_length es7) hf7 (entCells_one h7.2.1) (by unfold maxLen; omega) (by omega)
  have hs10 := row_ents (es := es6 ++ es7) hs9 (by rw [entCells_append]; rfl) (by simp)
  obtain ⟨E', hE, hs11, he⟩ := ents_freeze (by simpa using hn) (fun e h => by
    rcases List.mem_append.1 h with h | h
    · exact h6.2.1 e h
    · exact h7.2.1 e h) hs10
  exact ⟨v8, w8, v9, w9, E', hr8, hr9, hE, hX _ _ hE hs11, he⟩

theorem TreeE.swap {E : Env} {w : World} {A B : Asn} {r : Nat} {m : List KV} (h : TreeE E w (B * A) r m) : ∃ X, Go.Sep.sat E w (B * X) ∧ ∀ E' w' B', E.le E' → Go.Sep.sat E' w' (B' * X) → TreeE E' w' (B' * A) r m := by
  obtain ⟨h, l, hT, rfl⟩ := h
  exact ⟨_, hT.2.2.p2, fun E' w' B' hE hs => ⟨h, l, ⟨hT.1.le hE, hT.2.1, hs.r2⟩, rfl⟩⟩

/-- one number is appended -/
theorem append_num {E : Env} {w : World} {A : Asn} {r : Nat} {m : List KV} {v : Value} {ids : List Int} (id : Int) (hT : TreeE E w (nums v ids * A) r m) (hn : ids.length ≤ 100000) :
    ∃ a c w', (Builtin.append_ #[32, 32] 32 #[v, .slice (some ⟨w.heap.size, 0, none⟩) 1 1]).run Try.prog (w.alloc (.cells #[.int .i64 id] 3)) = .ok (.slice a (ids.length + 1) c) w' ∧ TreeE E w' (nums (.slice a (ids.length + 1) c) (ids ++ [id]) * A) r m := by
  obtain ⟨X, hs, hX⟩ := hT.swap
  obtain ⟨i0, el⟩ := elInt
  have hs1 := (hs.alloc (.cells #[.int .i64 id] 3)).p2
  obtain ⟨av, cv, rfl⟩ := nums_slice hs1
  have hfy : firsts Try.prog (w.alloc (.cells #[.int .i64 id] 3)) 1 1 (.slice (some ⟨w.heap.size, 0, none⟩) 1 1) [.int .i64 id] := by
    refine firsts_some rfl fun j x hj => ?_
    rw [add_lit, cell_of_block hs1.p2.block]
    simpa using hj
  obtain ⟨v', w6, hr6, hs6, _, hsz6, _, _⟩ := append_row el 32 hs1 (some ⟨w.heap.size, 0, none⟩) 1 1 _ rfl hfy (fun u hu => by simp at hu; subst hu; rfl) (by unfold maxLen; omega) (by omega)
  obtain ⟨g6, c6, rfl, _, _⟩ := row_some hs6 (by omega)
  refine ⟨_, _, w6, hr6, hX E w6 _ (.refl E) ?_⟩
  unfold nums
  rw [List.length_append, List.map_append]
  exact hs6.p2.drop

theorem freeze_nums {E : Env} {w : World} {A : Asn} {r : Nat} {m : List KV} {v : Value} {ids : List Int} (hT : TreeE E w (nums v ids * A) r m) (hn : ids.length ≤ 1000000) : ∃ E', E.le E' ∧ TreeE E' w A r m ∧ Env.ints E' v ids := by
  obtain ⟨h, l, hT, rfl⟩ := hT
  obtain ⟨E', hE, hs, hi⟩ := nums_freeze hn hT.2.2.p2
  exact ⟨E', hE, ⟨h, l, ⟨hT.1.le hE, hT.2.1, hs⟩, rfl⟩, hi⟩

/-- what has been gathered up to here -/
def idsTo (key : List Val) (es : List Ent) (k : Nat) : List Int := ((es.take k).filter (ofKey key)).map (·.id)

theorem idsTo_yes {key : List Val} {es : List Ent} {k : Nat} (h : k < es.length) (he : es[k].l = key) : idsTo key es (k + 1) = idsTo key es k ++ [es[k].id] := by
  unfold idsTo
  rw [List.take_succ_eq_append_getElem h, List.filter_append, List.filter_cons_of_pos (by simpa [ofKey] using he)]
  simp
theorem idsTo_no {key : List Val} {es : List Ent} {k : Nat} (h : k < es.length) (he : ¬ es[k].l = key) : idsTo key es (k + 1) = idsTo key es k := by
  unfold idsTo
  rw [List.take_succ_eq_append_getElem h, List.filter_append, List.filter_cons_of_neg (by simpa [ofKey] using he)]
  simp
theorem idsTo_length (key : List Val) (es : List Ent) (k : Nat) : (idsTo key es k).length ≤ es.length := by
  unfold idsTo
  rw [List.length_map]
  have h1 := List.length_filter_le (ofKey key) (es.take k)
  rw [List.length_take] at h1
  omega
theorem idsTo_all {key : List Val} {es : List Ent} {m : List KV} (hk : kvs es = m) (hm : rowed m) : keyIds key m = idsTo key es es.length := by
  unfold idsTo
  rw [List.take_length, keyIds_filter key hm, ← hk, kvs_ids, ← kvs_filter]
  rfl

set_option maxRecDepth 100000 in
set_option maxHeartbeats 4000000 in
theorem parts (E : Env) (w : World) (A : Asn) (v1 v2 : Value) (l : List Stp) (key : List Val) (hs : sat E w A) (h1 : Env.steps E v1 l) (hb : fitsS l) (h2 : E.vals v2 key) (hb2 : fits key) :
    Calls Try.prog 3 #[v1, v2] w (Ret fun v w' => v = .bool true ∧ sat E w' A) := by
  refine ret_hide fun R hR => ?_
  have hR1 := fun (w' : World) (h' : sat E w' A) => hR.out _ w' ⟨rfl, h'⟩
  replace hR1 := Lib.hid hR1
  clear hR
  obtain ⟨a2, c2, rfl⟩ := h2.slice
  go_enter Try.func3, Try.ntmps3
  go_wp2_with fail
  refine (works E w A hs).mono ?_
  rintro e w1 ⟨_, rfl, rfl, hs1⟩
  clear hs
  go_wp2_with fail
  refine (large E _ _ _ l hs1 h1 hb).mono ?_
  rintro e w2 ⟨_, rfl, b, rfl, hfew, hs2⟩
  clear hs1
  rcases b with _ | _
  rotate_left
  · clear hfew
    go_wp2_with fail
    refine (works E _ A hs2).mono ?_
    rintro e w3 ⟨_, rfl, rfl, hs3⟩
    have hR' := hR1.out _ hs3
    clear hR1
    go_wp2
    try go_ret
    exact hR'
  · have hf2 := Lib.hid (hfew rfl)
    clear hfew
    by_cases hk : key = []
    · subst hk
      go_wp2_with fail
      refine (works E _ A hs2).mono ?_
      rintro e w3 ⟨_, rfl, rfl, hs3⟩
      have hR' := hR1.out _ hs3
      clear hR1
      go_wp2
      try go_ret
      exact hR'
    · have hkl : 0 < key.length := List.length_pos_iff.2 hk
      obtain ⟨ak, rfl⟩ : ∃ ak, a2 = some ak := by
        obtain ⟨_, a, b, off, cap, hv, ha, _⟩ := h2
        injection hv with e1 e2 e3
        subst e1
        rcases ha with hl | rfl
        · exact absurd hl.out hk
        · exact ⟨_, rfl⟩
      have hk0 : ((key.length : Int) == 0) = false := by simpa using hk
      replace hk := Lib.hid hk
      go_wp2_with fail
      refine (sizeOf E _ A _ key hs2 h2 hb2).mono ?_
      rintro e w3 ⟨_, rfl, n, rfl, hn1, hn2, hs3⟩
      clear hs2
      by_cases hbig : 5000 < n
      · have hbig' : (5000 : Int) < n := by omega
        clear hn2
        go_wp2_with fail
        refine (works E _ A hs3).mono ?_
        rintro e w4 ⟨_, rfl, rfl, hs4⟩
        have hR' := hR1.out _ hs4
        clear hR1
        go_wp2
        try go_ret
        exact hR'
      · have hbig' : ¬ ((5000 : Int) < n) := by omega
        have hkb : key.length ≤ 5000 := by have := hn2 (by omega); omega
        clear hn2
        go_wp2_with fail
        refine (manyE E _ A _ l hs3 h1 hf2.out).mono ?_
        rintro e w4 ⟨_, rfl, r, E4, rfl, hE4, hT4⟩
        have hm := small_putAll hf2.out
        have hro := hT4.rowed
        generalize putAll (l.map Stp.kv) = m at *
        replace hro := Lib.hid hro
        unfold ptr
        clear hs3
        go_wp2_with fail
        refine (walkE E4 _ A r m _ _ _ [] hT4 (.inl ⟨rfl, rfl⟩) (vals_nil _) hm).mono ?_
        rintro e w5 ⟨v5, rfl, E5, es5, hE5, hT5, hi5, hk5⟩
        replace hk5 := Lib.hid (hk5.trans (piece_all m))
        clear hT4
        go_wp2_with fail
        refine (walkE E5 _ A r m _ _ _ key hT5 (.inl ⟨rfl, rfl⟩) ((h2.le hE4).le hE5) hm).mono ?_
        rintro e w6 ⟨v6, rfl, E6, es6, hE6, hT6, hi6, hk6⟩
        replace hk6 := Lib.hid (hk6.trans (piece_to _ key hk.out m))
        clear hT5
        go_wp2_with fail
        refine (walkE E6 _ A r m _ _ _ [] hT6 (.inr ⟨_, _, _, _, rfl, ((h2.le hE4).le hE5).le hE6, rfl⟩) (vals_nil _) hm).mono ?_
        rintro e w7 ⟨v7, rfl, E7, es7, hE7, hT7, hi7, hk7⟩
        replace hk7 := Lib.hid (hk7.trans (piece_from _ m))
        clear hT6
        have hi6' := hi6.le hE7
        have hi5' := (hi5.le hE6).le hE7
        have hjoin : Hid (kvs (es6 ++ es7) = m) := by
          show kvs (es6 ++ es7) = m
          have : kvs (es6 ++ es7) = kvs es6 ++ kvs es7 := by simp [kvs]
          rw [this, hk6.out, hk7.out, filter_all (fun _ _ => rfl)]
          exact split_at key hro.out
        have hlen : es6.length + es7.length ≤ 100000 := by
          have := congrArg List.length hjoin.out
          have h3 := hm.1
          simp [kvs] at this
          omega
        obtain ⟨v8, w8, v9, w9, E9, hr8, hr9, hE9, hT9, hi9⟩ := join_ents hT7 hi6' hi7 (by omega)
        clear hT7
        go_wp2_with (at_builtin; first | refine Lib.wpList_append_run _ rfl _ _ _ _ rfl _ _ rfl rfl _ _ hr8 ?_ | refine Lib.wpList_append_run _ rfl _ _ _ _ rfl _ _ rfl rfl _ _ hr9 ?_)
        refine (sameEntsE E9 _ A r m _ _ _ _ hT9 hi9 (hi5'.le hE9)).mono ?_
        rintro e w10 ⟨_, rfl, rfl, hT10⟩
        rw [show decide (kvs (es6 ++ es7) = kvs es5) = true by rw [hjoin.out, hk5.out]; simp]
        clear hr8 hr9 hT9 hi9 hi6 hi6' hi7 hk6 hk7 hjoin hlen hi5
        go_wp2_with fail
        refine (walkE E9 _ A r m _ _ _ key hT10 (.inr ⟨_, _, _, _, rfl, ((((h2.le hE4).le hE5).le hE6).le hE7).le hE9, rfl⟩) (((((h2.le hE4).le hE5).le hE6).le hE7).le hE9) hm).mono ?_
        rintro e w11 ⟨v11, rfl, E11, es11, hE11, hT11, hi11, hk11⟩
        have hnil : es11 = [] := by
          have := hk11.trans (piece_to _ key hk.out m)
          rw [none_between] at this
          exact List.map_eq_nil_iff.1 this
        subst hnil
        obtain ⟨_, _, a11, _, _, c11, rfl, _, _⟩ := hi11
        clear hT10 hk11
        obtain ⟨hn5, hg5, a5, b5, o5, cap5, rfl, ha5, hc5⟩ := ((hi5'.le hE9).le hE11)
        clear hi5'
        replace hc5 := Lib.hid hc5
        have hkey := Lib.hid (((((h2.le hE4).le hE5).le hE6).le hE7).le hE9 |>.le hE11)
        have hEall := Lib.hid (((((hE4.trans hE5).trans hE6).trans hE7).trans hE9).trans hE11)
        clear hE4 hE5 hE6 hE7 hE9 hE11
        have hl5 : es5.length ≤ 100000 := by
          have := congrArg List.length hk5.out
          have h3 := hm.1
          simp [kvs] at this
          omega
        have hT12 : TreeE E11 w11 (nums (.slice none 0 0) [] * A) r m := by
          obtain ⟨h, l, hT, rfl⟩ := hT11
          exact ⟨h, l, ⟨hT.1, hT.2.1, (hT.2.2.mk_nil (e := 3) (sz := 1)).p2⟩, rfl⟩
        clear hT11
        rcases ha5 with ⟨rfl, he5⟩ | rfl
        all_goals
          go_wp2
          go_loopw [9, 10] (fun v i wr => ∃ k : Nat, k ≤ es5.length ∧ i = .int .i64 k ∧ ∃ a c, v = .slice a (idsTo key es5 k).length c ∧ TreeE E11 wr (nums (.slice a (idsTo key es5 k).length c) (idsTo key es5 k) * A) r m) (fun v i _ => es5.length - (intOf i).toNat)
          case atStart => exact ⟨0, Nat.zero_le _, rfl, none, 0, rfl, hT12⟩
          case round =>
            clear hT12
            obtain ⟨k, hk5l, rfl, av, cv, rfl, hT12⟩ := hrel
            have hidl := idsTo_length key es5 k
            by_cases hlt : k < es5.length
            · first
                | exact no_lt he5 hlt
                | obtain ⟨X, hsX, hX⟩ := hT12.frame
                  obtain ⟨g0, g1, g2⟩ := sat.ent2 hsX (hc5.out k hlt)
                  go_wp2_with fail
                  refine (refSame E11 _ _ _ _ _ _ hsX (hg5 _ (List.getElem_mem hlt)) hkey.out).mono ?_
                  rintro e w13 ⟨_, rfl, rfl, hs13⟩
                  have hT13 := hX _ _ (.refl E11) hs13
                  clear hT12 g0 g1 g2 hsX
                  obtain ⟨g0, g1, g2⟩ := sat.ent2 hs13 (hc5.out k hlt)
                  by_cases he : es5[k].l = key
                  · have hstep := Lib.hid (idsTo_yes hlt he)
                    rw [show decide (es5[k].l = key) = true by simpa using he]
                    obtain ⟨a', c', w', hr, hT14⟩ := append_num es5[k].id hT13 (by omega)
                    have hlen : Hid ((idsTo key es5 (k + 1)).length = (idsTo key es5 k).length + 1) := by show _ = _; rw [hstep.out]; simp
                    replace he := Lib.hid he
                    clear hs13 hX
                    go_wp2_with (at_builtin; refine Lib.wpList_append_run _ rfl _ _ _ _ rfl _ _ rfl rfl _ _ hr ?_)
                    rw [← hlen.out, ← hstep.out] at hT14
                    clear hr
                    go_roundw
                    case rel => exact ⟨k + 1, by omega, by go_num, a', c', by rw [hlen.out], hT14⟩
                    case measure => simp [intOf]; omega
                  · have hstep := Lib.hid (idsTo_no hlt he)
                    rw [show decide (es5[k].l = key) = false by simpa using he]
                    replace he := Lib.hid he
                    rw [← hstep.out] at hT13
                    go_wp2
                    go_roundw
                    case rel => exact ⟨k + 1, by omega, by go_num, av, cv, by rw [hstep.out], hT13⟩
                    case measure => simp [intOf]; omega
            · have hkk : Hid (k = es5.length) := by show k = es5.length; omega
              go_wp2_with fail
              refine (findE E11 _ _ r m _ _ key hT12 hkey.out hm).mono ?_
              rintro e w13 ⟨v13, rfl, E13, hE13, hT13, hi13⟩
              obtain ⟨E14, hE14, hT14, hi14⟩ := freeze_nums hT13 (by omega)
              go_wp2_with fail
              refine (sameIntsE E14 _ A r m _ _ _ _ hT14 (hi13.le hE14) hi14).mono ?_
              rintro e w15 ⟨_, rfl, rfl, hT15⟩
              rw [show decide (keyIds key m = idsTo key es5 k) = true by rw [hkk.out]; simpa using idsTo_all hk5.out hro.out]
              have hR' := hR1.out _ (hT15.sat.le ((hEall.out.trans hE13).trans hE14))
              clear hR1 hkk
              go_wp2
              try go_ret
              exact hR'
end Go.Proofs.Ytmibiaakppkmmaa
