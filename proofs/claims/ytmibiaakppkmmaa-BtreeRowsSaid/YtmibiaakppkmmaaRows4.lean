/- BtreeRows: the walk. -/
import Derived.Test.YtmibiaakppkmmaaStps
namespace Go.Proofs.Ytmibiaakppkmmaa
open Go.RowKit Go.Sep
set_option linter.unusedVariables false
set_option linter.unusedSimpArgs false

theorem Two.keep {E : Env} {w : World} {A : Asn} {r1 r2 : Nat} {m1 m2 : List KV} (h : Two E w A r1 m1 r2 m2) : TreeE E w A r1 m1 := by
  obtain ⟨h1, l1, h2, l2, a1, a2, a3, b1, b2, b3, hs⟩ := h
  exact ⟨h1, l1, ⟨a1, a2, hs.p2.drop⟩, a3⟩

theorem few_perm {s l : List Stp} (hp : s.Perm l) (h : few l) : few s := ⟨hp.length_eq ▸ h.1, fun x hx => h.2 x (hp.mem_iff.1 hx)⟩

theorem del1_length (x : KV) (m : List KV) : (del1 x m).length ≤ m.length := List.length_filter_le _ _
theorem mem_del1 {x y : KV} {m : List KV} : y ∈ del1 x m ↔ y ∈ m ∧ y ≠ x := by unfold del1; simp

theorem del_step {mk m T T' : List KV} {y : KV} (h : ∀ x, x ∈ mk ↔ x ∈ m ∧ x ∉ T) (ht : ∀ x, x ∈ T' ↔ x ∈ T ∨ x = y) : ∀ x, x ∈ del1 y mk ↔ x ∈ m ∧ x ∉ T' := by
  intro x
  rw [mem_del1, h, ht]
  grind

theorem take_mem_step {s : List Stp} {k : Nat} (h : k < s.length) (x : KV) : x ∈ (s.map Stp.kv).take (k + 1) ↔ x ∈ (s.map Stp.kv).take k ∨ x = s[k].kv := by
  rw [List.take_succ_eq_append_getElem (by simpa using h), List.mem_append, List.mem_singleton]
  simp

/-- one step is appended -/
theorem append_stp {E : Env} {w : World} {A : Asn} {r : Nat} {m : List KV} {v : Value} {l : List Stp} (x : Stp) (hx : x.ok E) (hT : TreeE E w (stps v l * A) r m) (hn : l.length ≤ 100000) :
    ∃ a c w', (Builtin.append_ #[22, 22] 22 #[v, .slice (some ⟨w.heap.size, 0, none⟩) 1 1]).run Try.prog (w.alloc (.cells #[.int .u8 x.kind, x.k, x.k2, .int .i64 x.id] 40)) = .ok (.slice a (l.length + 1) c) w' ∧ TreeE E w' (stps (.slice a (l.length + 1) c) (l ++ [x]) * A) r m := by
  obtain ⟨X, hs, hX⟩ := hT.swap
  obtain ⟨i0, el⟩ := elStp
  have hs1 := (hs.alloc (.cells #[.int .u8 x.kind, x.k, x.k2, .int .i64 x.id] 40)).p2
  obtain ⟨av, cv, rfl⟩ := stps_slice hs1
  have hfy : firsts Try.prog (w.alloc (.cells #[.int .u8 x.kind, x.k, x.k2, .int .i64 x.id] 40)) 4 1 (.slice (some ⟨w.heap.size, 0, none⟩) 1 1) x.cs := by
    refine firsts_some rfl fun j u hj => ?_
    rw [add_lit, cell_of_block hs1.p2.block]
    simpa [Stp.cs] using hj
  obtain ⟨v', w6, hr6, hs6, _, hsz6, _, _⟩ := append_row el 22 hs1 (some ⟨w.heap.size, 0, none⟩) 1 1 _ rfl hfy (stp_ok_one hx) (by unfold maxLen; omega) (by omega)
  obtain ⟨g6, c6, rfl, _, _⟩ := row_some hs6 (by omega)
  refine ⟨_, _, w6, hr6, hX E w6 _ (.refl E) ?_⟩
  unfold stps
  rw [List.length_append, stpCells_append, show stpCells [x] = x.cs by simp [stpCells]]
  exact hs6.p2.drop

theorem freeze_stps {E : Env} {w : World} {A : Asn} {r : Nat} {m : List KV} {v : Value} {l : List Stp} (hT : TreeE E w (stps v l * A) r m) (hn : l.length ≤ 1000000) (hg : ∀ s ∈ l, s.ok E) : ∃ E', E.le E' ∧ TreeE E' w A r m ∧ Env.steps E' v l := by
  obtain ⟨h, l', hT, rfl⟩ := hT
  obtain ⟨E', hE, hs, hi⟩ := stps_freeze hn hg hT.2.2.p2
  exact ⟨E', hE, ⟨h, l', ⟨hT.1.le hE, hT.2.1, hs⟩, rfl⟩, hi⟩

def predI (k : Nat) : Int := (k : Int) - 1
theorem predI_succ (k : Nat) : predI (k + 1) = (k : Int) := by unfold predI; omega

theorem rev_step {l : List Stp} {k : Nat} (h : k < l.length) : (l.drop k).reverse = (l.drop (k + 1)).reverse ++ [l[k]] := by
  rw [List.drop_eq_getElem_cons h]; simp

theorem uidx (x : Int) (n : Nat) (hn : 0 < n) (hb : n ≤ 1000000) : ∃ a : Nat, wrap64 ((IntKind.u64.wrap x).tmod n) = a ∧ a < n := by
  have h0 : 0 ≤ IntKind.u64.wrap x := by
    unfold IntKind.wrap
    simp [IntKind.bits, IntKind.signed]
    omega
  have h1 : (IntKind.u64.wrap x).tmod n = (IntKind.u64.wrap x) % n := Int.tmod_eq_emod_of_nonneg h0
  rw [h1]
  have h2 := Int.emod_nonneg (IntKind.u64.wrap x) (b := (n : Int)) (by omega)
  have h3 := Int.emod_lt_of_pos (IntKind.u64.wrap x) (b := (n : Int)) (by omega)
  generalize IntKind.u64.wrap x % (n : Int) = y at *
  refine ⟨y.toNat, ?_, by omega⟩
  unfold wrap64
  omega

set_option maxRecDepth 100000 in
set_option maxHeartbeats 4000000 in
theorem rows (E : Env) (w : World) (A : Asn) (v1 : Value) (a2 : Option Addr) (n2 c2 : Nat) (l : List Stp) (ts : List Int) (hs : sat E w A) (h1 : Env.steps E v1 l) (hb : fitsS l) (h2 : n2 ≤ 1000 → Env.ints E (.slice a2 n2 c2) ts) :
    Calls Try.prog 4 #[v1, .slice a2 n2 c2] w (Ret fun v w' => v = .bool true ∧ sat E w' A) := by
  refine ret_hide fun R hR => ?_
  have hR1 := fun (w' : World) (h' : sat E w' A) => hR.out _ w' ⟨rfl, h'⟩
  replace hR1 := Lib.hid hR1
  clear hR
  have h1' := h1
  obtain ⟨hln, hlg, a1, b1, o1, cap1, rfl, ha1, hc1⟩ := h1
  replace hc1 := Lib.hid hc1
  replace hlg := Lib.hid hlg
  replace h2 := Lib.hid h2
  go_enter Try.func4, Try.ntmps4
  go_wp2_with fail
  refine (works E w A hs).mono ?_
  rintro e w1 ⟨_, rfl, rfl, hs1⟩
  clear hs
  go_wp2_with fail
  refine (large E _ _ _ l hs1 h1' hb).mono ?_
  rintro e w2 ⟨_, rfl, b, rfl, hfew, hs2⟩
  clear hs1
  rcases b with _ | _
  rotate_left
  · clear hfew
    go_wp2_with fail
    refine (works E _ A hs2).mono ?_
    rintro e w3 ⟨_, rfl, rfl, hs3⟩
    have hR' := hR1.out _ hs3
    clear hR1
    go_wp2
    try go_ret
    exact hR'
  · have hf2 := Lib.hid (hfew rfl)
    clear hfew
    by_cases hbig : 1000 < n2
    · have hbig' : (1000 : Int) < n2 := by omega
      go_wp2_with fail
      refine (works E _ A hs2).mono ?_
      rintro e w3 ⟨_, rfl, rfl, hs3⟩
      have hR' := hR1.out _ hs3
      clear hR1
      go_wp2
      try go_ret
      exact hR'
    · have hbig' : ¬ ((1000 : Int) < n2) := by omega
      obtain ⟨_, at2, bt, ot, capt, hvt, hat, hct⟩ := h2.out (by omega)
      injection hvt with e1 e2 e3
      subst e1; subst e2; subst e3
      replace hct := Lib.hid hct
      go_wp2_with fail
      refine (manyE E _ A _ l hs2 h1' hf2.out).mono ?_
      rintro e w4 ⟨_, rfl, r, E4, rfl, hE4, hT4⟩
      have hm := small_putAll hf2.out
      have hro := Lib.hid hT4.rowed
      have hfl := hf2.out.1
      clear hs2
      have hT4 : TreeE E4 w4 (stps (.slice none 0 0) (l.drop l.length).reverse * A) r (putAll (l.map Stp.kv)) := by
        obtain ⟨h, l', hT, hk⟩ := hT4
        rw [List.drop_length]
        exact ⟨h, l', ⟨hT.1, hT.2.1, (hT.2.2.mk_nil (e := 40) (sz := 4)).p2⟩, hk⟩
      have hmem : Hid (∀ x, x ∈ putAll (l.map Stp.kv) ↔ x ∈ l.map Stp.kv) := fun x => mem_putAll
      generalize putAll (l.map Stp.kv) = m at *
      have hok4 : Hid (∀ s ∈ l, s.ok E4) := fun s hs => ⟨(hlg.out s hs).1.le hE4, (hlg.out s hs).2.le hE4⟩
      unfold ptr
      rcases ha1 with ⟨rfl, hl1⟩ | rfl
      all_goals
        go_wp2
        go_loopw [6, 7] (fun v i wr => ∃ k : Nat, k ≤ l.length ∧ i = .int .i64 (predI k) ∧ ∃ a c, v = .slice a (l.drop k).reverse.length c ∧ TreeE E4 wr (stps (.slice a (l.drop k).reverse.length c) (l.drop k).reverse * A) r m) (fun v i _ => (intOf i + 1).toNat)
        case atStart => exact ⟨l.length, Nat.le_refl _, rfl, none, 0, by simp, by simpa using hT4⟩
        case round =>
          clear hT4
          obtain ⟨k, hkl, rfl, av, cv, rfl, hT4⟩ := hrel
          rcases k with _ | k
          · rw [show predI 0 = -1 from rfl]
            simp only [List.drop_zero, List.length_reverse] at *
            have hT6 : ∃ s : List Stp, Hid (s.Perm l) ∧ TreeE E4 wr (stps (.slice av l.length cv) s * A) r m := ⟨l.reverse, l.reverse_perm, hT4⟩
            clear hT4
            go_wp2
            go_loopw [8] (fun i wr => ∃ k : Nat, k ≤ ts.length ∧ i = .int .i64 k ∧ ∃ s : List Stp, Hid (s.Perm l) ∧ TreeE E4 wr (stps (.slice av l.length cv) s * A) r m) (fun i _ => ts.length - (intOf i).toNat)
            case atStart => exact ⟨0, Nat.zero_le _, rfl, hT6⟩
            case round =>
              clear hT6
              obtain ⟨k, hkt, rfl, s, hsp, hT⟩ := hrel
              have hsl : Hid (s.length = l.length) := hsp.out.length_eq
              by_cases hlk : k < ts.length
              · by_cases hl0 : 0 < l.length
                · rcases hat with ⟨rfl, hts⟩ | rfl
                  · exact no_lt hts hlk
                  · first
                      | exact no_lt hl1 hl0
                      | obtain ⟨X, hsX, hX⟩ := hT.swap
                        have hE4' := hsX.le hE4
                        have k0 := hE4'.cell_lt (hct.out k hlk)
                        have k1 := hE4'.cell (hct.out k hlk)
                        obtain ⟨gs, cs, hgs, hcs, _⟩ := row_some hsX (by have := hsl.out; omega)
                        rw [hsl.out] at hgs hcs
                        injection hgs with e1 e2 e3
                        subst e1; subst e3
                        clear hE4' hT
                        obtain ⟨a, ha, han⟩ := uidx ts[k] l.length hl0 (by omega)
                        obtain ⟨b, hb', hbn⟩ : ∃ b : Nat, ((k : Int) % (l.length : Int)) = b ∧ b < l.length := ⟨k % l.length, by omega, Nat.mod_lt _ hl0⟩
                        replace ha := Lib.hid ha
                        replace hb' := Lib.hid hb'
                        go_wp2_with fail
                        rw [ha.out, hb'.out]
                        have has : a < s.length := by have := hsl.out; omega
                        have hbs : b < s.length := by have := hsl.out; omega
                        have okb := hok4.out _ (hsp.out.mem_iff.1 (List.getElem_mem hbs))
                        have oka := hok4.out _ (hsp.out.mem_iff.1 (List.getElem_mem has))
                        have hperm : Hid (((s.set a s[b]).set b s[a]).Perm l) := (List.set_set_perm has hbs).trans hsp.out
                        clear k0 k1
                        refine wp_draw_lit [(0,3),(1,3),(2,3),(3,3),(4,3),(5,3),(6,3),(7,0),(8,3),(9,3),(10,3),(11,0),(12,3),(13,2),(14,3),(15,2)] (sat E4 · _) (by kernel_rfl) (by kernel_rfl) rfl hsX.drew ?_
                        clear hsX
                        iterate 7 (refine wpD_pure _ rfl rfl rfl ?_; apply Exists.intro; refine ⟨fun w' => ?_, ?_, ?_⟩; (go_wp2; exact ⟨rfl, rfl, rfl⟩); rfl)
                        (refine wpD_reads _ rfl rfl rfl ?_; apply Exists.intro; refine ⟨fun w' hK => ?_, ?_, ?_⟩; (obtain ⟨⟨g0, g1, g2, g3, g4⟩, _⟩ := stp_at hK b hbs; go_wp2; exact ⟨rfl, rfl, rfl⟩); rfl)
                        iterate 3 (refine wpD_pure _ rfl rfl rfl ?_; apply Exists.intro; refine ⟨fun w' => ?_, ?_, ?_⟩; (go_wp2; exact ⟨rfl, rfl, rfl⟩); rfl)
                        (refine wpD_reads _ rfl rfl rfl ?_; apply Exists.intro; refine ⟨fun w' hK => ?_, ?_, ?_⟩; (obtain ⟨⟨g0, g1, g2, g3, g4⟩, _⟩ := stp_at hK a has; go_wp2; exact ⟨rfl, rfl, rfl⟩); rfl)
                        iterate 1 (refine wpD_pure _ rfl rfl rfl ?_; apply Exists.intro; refine ⟨fun w' => ?_, ?_, ?_⟩; (go_wp2; exact ⟨rfl, rfl, rfl⟩); rfl)
                        refine wpD_does (by decide) rfl rfl (fun Nx hNx w' hK => ?_)
                        obtain ⟨⟨g0, g1, g2, g3, g4⟩, f1, f2, f3, f4⟩ := stp_at hK a has
                        have hs9 := stps_store s[b] a has hK
                        obtain ⟨ax, cx, hxk⟩ := okb.1.slice
                        obtain ⟨ay, cy, hyk⟩ := okb.2.slice
                        rw [hxk, hyk] at hs9
                        go_wp2_with fail
                        refine ⟨rfl, (fun x => sat E4 x _), hs9, fun h => (by cases h), hNx _ _ ?_⟩
                        clear hs9 hK hNx g0 g1 g2 g3 g4 f1 f2 f3 f4 hxk hyk
                        iterate 1 (refine wpD_pure _ rfl rfl rfl ?_; apply Exists.intro; refine ⟨fun w' => ?_, ?_, ?_⟩; (go_wp2; exact ⟨rfl, rfl, rfl⟩); rfl)
                        refine wpD_does (by decide) rfl rfl (fun Nx hNx w' hK => ?_)
                        have hbs2 : b < (s.set a s[b]).length := by rw [List.length_set]; exact hbs
                        obtain ⟨⟨g0, g1, g2, g3, g4⟩, f1, f2, f3, f4⟩ := stp_at hK b hbs2
                        have hs9 := stps_store s[a] b hbs2 hK
                        obtain ⟨ax, cx, hxk⟩ := oka.1.slice
                        obtain ⟨ay, cy, hyk⟩ := oka.2.slice
                        rw [hxk, hyk] at hs9
                        go_wp2_with fail
                        refine ⟨rfl, (fun x => sat E4 x _), hs9, fun h => (by cases h), hNx _ _ ?_⟩
                        clear hs9 hK hNx g0 g1 g2 g3 g4 f1 f2 f3 f4 hxk hyk
                        refine wpD_nil (fun w5 hK => ?_)
                        have hT9 := hX E4 w5 _ (.refl E4) hK
                        generalize (s.set a s[b]).set b s[a] = s2 at *
                        clear hK hX ha hb'
                        go_wp2
                        go_roundw
                        case rel => exact ⟨k + 1, by omega, by go_num, s2, hperm, hT9⟩
                        case measure => simp [intOf]; omega
                · obtain ⟨E5, hE5, hT5, hst5⟩ := freeze_stps hT (by have := hsl.out; omega) (fun x hx => hok4.out x (hsp.out.mem_iff.1 hx))
                  have hfs := Lib.hid (few_perm hsp.out hf2.out)
                  obtain ⟨X, hsX, hmk⟩ := Two.make hT5
                  clear hT hT5
                  go_wp2_with fail
                  refine (manyE E5 _ X _ s hsX hst5 hfs.out).mono ?_
                  rintro e w6 ⟨_, rfl, r2, E6, rfl, hE6, hT6⟩
                  have h2T := hmk E6 w6 r2 _ hE6 hT6
                  have hmm : Hid (putAll (s.map Stp.kv) = m) := rowed_eq hT6.rowed hro.out fun x => by rw [mem_putAll, hmem.out]; exact (hsp.out.map Stp.kv).mem_iff
                  rw [hmm.out] at h2T
                  clear hT6 hsX hmk
                  unfold ptr
                  -- Walk of both
                  obtain ⟨X1, hT7, hb7⟩ := h2T.first
                  go_wp2_with fail
                  refine (walkE E6 _ X1 r m _ _ _ [] hT7 (.inl ⟨rfl, rfl⟩) (vals_nil _) hm).mono ?_
                  rintro e w7 ⟨v7, rfl, E7, es7, hE7, hT7', hi7, hk7⟩
                  replace hk7 := Lib.hid (hk7.trans (piece_all m))
                  have h2T7 := hb7 E7 w7 m hE7 hT7'
                  clear hT7 hT7' hb7 h2T
                  obtain ⟨X2, hT8, hb8⟩ := h2T7.swap.first
                  go_wp2_with fail
                  refine (walkE E7 _ X2 r2 m _ _ _ [] hT8 (.inl ⟨rfl, rfl⟩) (vals_nil _) hm).mono ?_
                  rintro e w8 ⟨v8, rfl, E8, es8, hE8, hT8', hi8, hk8⟩
                  replace hk8 := Lib.hid (hk8.trans (piece_all m))
                  clear hT8 h2T7
                  have hi7' := hi7.le hE8
                  go_wp2_with fail
                  refine (sameEntsE E8 _ X2 r2 m _ _ _ _ hT8' hi7' hi8).mono ?_
                  rintro e w9 ⟨_, rfl, rfl, hT9⟩
                  rw [show decide (kvs es7 = kvs es8) = true by rw [hk7.out, hk8.out]; simp]
                  have h2T9 := hb8 E8 w9 m hE8 hT9
                  clear hT8' hi7 hi7' hi8 hb8 hT9
                  obtain ⟨X3, hT10, _⟩ := h2T9.swap.first
                  go_wp2_with fail
                  refine (lenE E8 _ X3 r m hT10).mono ?_
                  rintro e w10 ⟨_, rfl, rfl, rfl⟩
                  obtain ⟨X4, hT11, _⟩ := h2T9.first
                  go_wp2_with fail
                  refine (lenE E8 _ X4 r2 m hT11).mono ?_
                  rintro e w11 ⟨_, rfl, rfl, rfl⟩
                  have hT12 := h2T9.swap.keep
                  clear hT10 hT11 h2T9
                  have hE8' := Lib.hid (((hE4.trans hE5).trans hE6).trans (hE7.trans hE8))
                  obtain ⟨_, hsg, sa, sb, so, sc, hvs, hsa, hcs⟩ := hst5.le (hE6.trans (hE7.trans hE8))
                  injection hvs with e1 e2 e3
                  subst e1; subst e3
                  replace hcs := Lib.hid hcs
                  replace hsg := Lib.hid hsg
                  replace e2 := Lib.hid e2
                  clear hst5 hE5 hE6 hE7 hE8
                  have hml : m.length ≤ 100000 := hm.1
                  have hT13 : ∃ mk, TreeE E8 _ A r mk ∧ mk.length ≤ 100000 ∧ Hid (∀ x, x ∈ mk ↔ x ∈ m ∧ x ∉ (s.map Stp.kv).take 0) := ⟨m, hT12, hml, fun x => by simp⟩
                  clear hT12
                  go_wp2
                  go_loopw [12] (fun i wr => ∃ k : Nat, k ≤ l.length ∧ i = .int .i64 k ∧ ∃ mk, TreeE E8 wr A r mk ∧ mk.length ≤ 100000 ∧ Hid (∀ x, x ∈ mk ↔ x ∈ m ∧ x ∉ (s.map Stp.kv).take k)) (fun i _ => l.length - (intOf i).toNat)
                  case atStart => exact ⟨0, Nat.zero_le _, rfl, hT13⟩
                  case round =>
                    clear hT13
                    obtain ⟨k3, hk3, rfl, mk, hTk, hmk, hmem3⟩ := hrel
                    by_cases hlt3 : k3 < l.length
                    · omega
                    · have hkk : k3 = l.length := by omega
                      have hnil : mk = [] := by
                        rw [List.eq_nil_iff_forall_not_mem]
                        intro x hx
                        obtain ⟨h1, h2⟩ := (hmem3.out x).1 hx
                        rw [hkk, ← hsl.out, ← List.length_map (f := Stp.kv), List.take_length] at h2
                        exact h2 ((hsp.out.map Stp.kv).mem_iff.2 ((hmem.out x).1 h1))
                      subst hnil
                      clear hkk hmem3
                      go_wp2_with fail
                      refine (lenE E8 _ A r [] hTk).mono ?_
                      rintro e w20 ⟨_, rfl, rfl, rfl⟩
                      simp only [List.length_nil]
                      go_wp2_with fail
                      refine (walkE E8 _ A r [] _ _ _ [] hTk (.inl ⟨rfl, rfl⟩) (vals_nil _) ⟨by simp, fun x hx => by cases hx⟩).mono ?_
                      rintro e w21 ⟨v21, rfl, E21, es21, hE21, hT21, hi21, hk21⟩
                      have he21 : es21 = [] := List.map_eq_nil_iff.1 (hk21.trans (piece_all []))
                      subst he21
                      obtain ⟨_, _, a21, _, _, c21, rfl, _, _⟩ := hi21
                      clear hTk hk21
                      simp only [List.length_nil]
                      go_wp2_with fail
                      refine (heightE E21 _ A r [] hT21 (by simp)).mono ?_
                      rintro e w22 ⟨_, rfl, ⟨h, rfl, hh⟩, rfl⟩
                      obtain rfl := high_none hh
                      have hR' := hR1.out _ (hT21.sat.le (hE8'.out.trans hE21))
                      clear hR1 hh hT21
                      go_wp2
                      try go_ret
                      exact hR'
              · obtain ⟨E5, hE5, hT5, hst5⟩ := freeze_stps hT (by have := hsl.out; omega) (fun x hx => hok4.out x (hsp.out.mem_iff.1 hx))
                have hfs := Lib.hid (few_perm hsp.out hf2.out)
                obtain ⟨X, hsX, hmk⟩ := Two.make hT5
                clear hT hT5
                go_wp2_with fail
                refine (manyE E5 _ X _ s hsX hst5 hfs.out).mono ?_
                rintro e w6 ⟨_, rfl, r2, E6, rfl, hE6, hT6⟩
                have h2T := hmk E6 w6 r2 _ hE6 hT6
                have hmm : Hid (putAll (s.map Stp.kv) = m) := rowed_eq hT6.rowed hro.out fun x => by rw [mem_putAll, hmem.out]; exact (hsp.out.map Stp.kv).mem_iff
                rw [hmm.out] at h2T
                clear hT6 hsX hmk
                unfold ptr
                -- Walk of both
                obtain ⟨X1, hT7, hb7⟩ := h2T.first
                go_wp2_with fail
                refine (walkE E6 _ X1 r m _ _ _ [] hT7 (.inl ⟨rfl, rfl⟩) (vals_nil _) hm).mono ?_
                rintro e w7 ⟨v7, rfl, E7, es7, hE7, hT7', hi7, hk7⟩
                replace hk7 := Lib.hid (hk7.trans (piece_all m))
                have h2T7 := hb7 E7 w7 m hE7 hT7'
                clear hT7 hT7' hb7 h2T
                obtain ⟨X2, hT8, hb8⟩ := h2T7.swap.first
                go_wp2_with fail
                refine (walkE E7 _ X2 r2 m _ _ _ [] hT8 (.inl ⟨rfl, rfl⟩) (vals_nil _) hm).mono ?_
                rintro e w8 ⟨v8, rfl, E8, es8, hE8, hT8', hi8, hk8⟩
                replace hk8 := Lib.hid (hk8.trans (piece_all m))
                clear hT8 h2T7
                have hi7' := hi7.le hE8
                go_wp2_with fail
                refine (sameEntsE E8 _ X2 r2 m _ _ _ _ hT8' hi7' hi8).mono ?_
                rintro e w9 ⟨_, rfl, rfl, hT9⟩
                rw [show decide (kvs es7 = kvs es8) = true by rw [hk7.out, hk8.out]; simp]
                have h2T9 := hb8 E8 w9 m hE8 hT9
                clear hT8' hi7 hi7' hi8 hb8 hT9
                obtain ⟨X3, hT10, _⟩ := h2T9.swap.first
                go_wp2_with fail
                refine (lenE E8 _ X3 r m hT10).mono ?_
                rintro e w10 ⟨_, rfl, rfl, rfl⟩
                obtain ⟨X4, hT11, _⟩ := h2T9.first
                go_wp2_with fail
                refine (lenE E8 _ X4 r2 m hT11).mono ?_
                rintro e w11 ⟨_, rfl, rfl, rfl⟩
                have hT12 := h2T9.swap.keep
                clear hT10 hT11 h2T9
                have hE8' := Lib.hid (((hE4.trans hE5).trans hE6).trans (hE7.trans hE8))
                obtain ⟨_, hsg, sa, sb, so, sc, hvs, hsa, hcs⟩ := hst5.le (hE6.trans (hE7.trans hE8))
                injection hvs with e1 e2 e3
                subst e1; subst e3
                replace hcs := Lib.hid hcs
                replace hsg := Lib.hid hsg
                replace e2 := Lib.hid e2
                clear hst5 hE5 hE6 hE7 hE8
                have hml : m.length ≤ 100000 := hm.1
                have hT13 : ∃ mk, TreeE E8 _ A r mk ∧ mk.length ≤ 100000 ∧ Hid (∀ x, x ∈ mk ↔ x ∈ m ∧ x ∉ (s.map Stp.kv).take 0) := ⟨m, hT12, hml, fun x => by simp⟩
                clear hT12
                go_wp2
                go_loopw [12] (fun i wr => ∃ k : Nat, k ≤ l.length ∧ i = .int .i64 k ∧ ∃ mk, TreeE E8 wr A r mk ∧ mk.length ≤ 100000 ∧ Hid (∀ x, x ∈ mk ↔ x ∈ m ∧ x ∉ (s.map Stp.kv).take k)) (fun i _ => l.length - (intOf i).toNat)
                case atStart => exact ⟨0, Nat.zero_le _, rfl, hT13⟩
                case round =>
                  clear hT13
                  obtain ⟨k3, hk3, rfl, mk, hTk, hmk, hmem3⟩ := hrel
                  by_cases hlt3 : k3 < l.length
                  · have hlt4 : k3 < s.length := by have := hsl.out; omega
                    rcases hsa with ⟨rfl, hs0⟩ | rfl
                    · exact no_lt hs0 hlt4
                    · have hsk := (hsg.out _ (List.getElem_mem hlt4)).1
                      obtain ⟨X, hsX, hX⟩ := hTk.frame
                      have hmem4 : Hid (∀ x, x ∈ del1 (s[k3].l, s[k3].id) mk ↔ x ∈ m ∧ x ∉ (s.map Stp.kv).take (k3 + 1)) := del_step hmem3.out (take_mem_step hlt4)
                      clear hTk
                      go_wp2
                      refine wp_draw_lit [(0,3),(1,3),(2,3),(3,3),(4,3),(5,0),(6,3),(7,3),(8,3),(9,3),(10,0),(11,2)] (sat E8 · X) (by kernel_rfl) (by kernel_rfl) rfl hsX.drew ?_
                      clear hsX
                      iterate 5 (refine wpD_pure _ rfl rfl rfl ?_; apply Exists.intro; refine ⟨fun w' => ?_, ?_, ?_⟩; (go_wp2; exact ⟨rfl, rfl, rfl⟩); rfl)
                      (refine wpD_reads _ rfl rfl rfl ?_; apply Exists.intro; refine ⟨fun w' hK => ?_, ?_, ?_⟩; (obtain ⟨g0, g1, g2, g3, g4⟩ := sat.stp hK (hcs.out k3 hlt4); go_wp2; exact ⟨rfl, rfl, rfl⟩); rfl)
                      iterate 4 (refine wpD_pure _ rfl rfl rfl ?_; apply Exists.intro; refine ⟨fun w' => ?_, ?_, ?_⟩; (go_wp2; exact ⟨rfl, rfl, rfl⟩); rfl)
                      (refine wpD_reads _ rfl rfl rfl ?_; apply Exists.intro; refine ⟨fun w' hK => ?_, ?_, ?_⟩; (obtain ⟨g0, g1, g2, g3, g4⟩ := sat.stp hK (hcs.out k3 hlt4); go_wp2; exact ⟨rfl, rfl, rfl⟩); rfl)
                      refine wpD_does (by decide) rfl rfl (fun Nx hNx w' hK => ?_)
                      go_wp2_with fail
                      refine (delE E8 _ A r mk _ _ _ (hX E8 _ (.refl E8) hK) hsk hmk).mono ?_
                      rintro e wd ⟨_, rfl, rfl, hTd⟩
                      generalize decide ((s[k3].l, s[k3].id) ∈ mk) = bb
                      go_wp2_with fail
                      refine ⟨rfl, (fun x => TreeE E8 x A r (del1 (s[k3].l, s[k3].id) mk)), hTd, fun h => (by cases h), hNx _ _ ?_⟩
                      clear hTd hK hNx hX
                      refine wpD_nil (fun w5 hTd => ?_)
                      have hdl := del1_length (s[k3].l, s[k3].id) mk
                      generalize del1 (s[k3].l, s[k3].id) mk = mk2 at *
                      have hdl2 : mk2.length ≤ 100000 := by omega
                      go_wp2
                      go_roundw
                      case rel => exact ⟨k3 + 1, by omega, by go_num, mk2, hTd, hdl2, hmem4⟩
                      case measure => simp [intOf]; omega
                  · have hkk : k3 = l.length := by omega
                    have hnil : mk = [] := by
                      rw [List.eq_nil_iff_forall_not_mem]
                      intro x hx
                      obtain ⟨h1, h2⟩ := (hmem3.out x).1 hx
                      rw [hkk, ← hsl.out, ← List.length_map (f := Stp.kv), List.take_length] at h2
                      exact h2 ((hsp.out.map Stp.kv).mem_iff.2 ((hmem.out x).1 h1))
                    subst hnil
                    clear hkk hmem3
                    go_wp2_with fail
                    refine (lenE E8 _ A r [] hTk).mono ?_
                    rintro e w20 ⟨_, rfl, rfl, rfl⟩
                    simp only [List.length_nil]
                    go_wp2_with fail
                    refine (walkE E8 _ A r [] _ _ _ [] hTk (.inl ⟨rfl, rfl⟩) (vals_nil _) ⟨by simp, fun x hx => by cases hx⟩).mono ?_
                    rintro e w21 ⟨v21, rfl, E21, es21, hE21, hT21, hi21, hk21⟩
                    have he21 : es21 = [] := List.map_eq_nil_iff.1 (hk21.trans (piece_all []))
                    subst he21
                    obtain ⟨_, _, a21, _, _, c21, rfl, _, _⟩ := hi21
                    clear hTk hk21
                    simp only [List.length_nil]
                    go_wp2_with fail
                    refine (heightE E21 _ A r [] hT21 (by simp)).mono ?_
                    rintro e w22 ⟨_, rfl, ⟨h, rfl, hh⟩, rfl⟩
                    obtain rfl := high_none hh
                    have hR' := hR1.out _ (hT21.sat.le (hE8'.out.trans hE21))
                    clear hR1 hh hT21
                    go_wp2
                    try go_ret
                    exact hR'
          · have hlt : k < l.length := by omega
            first
              | exact no_lt hl1 hlt
              | obtain ⟨X, hsX, hX⟩ := hT4.frame
                obtain ⟨g0, g1, g2, g3, g4⟩ := sat.stp (hsX.le hE4) (hc1.out k hlt)
                have hxo := hok4.out _ (List.getElem_mem hlt)
                have hlr : (l.drop (k + 1)).reverse.length ≤ 100000 := by simp; omega
                obtain ⟨a', c', w', hr, hT5⟩ := append_stp l[k] hxo hT4 hlr
                rw [predI_succ]
                have hst := Lib.hid (rev_step hlt)
                have hlen : Hid ((l.drop k).reverse.length = (l.drop (k + 1)).reverse.length + 1) := by show _ = _; rw [hst.out]; simp
                clear hX hsX hT4
                generalize hS : (l.drop (k + 1)).reverse = S at *
                replace hS := Lib.hid hS
                go_wp2_with (at_builtin; refine Lib.wpList_append_run _ rfl _ _ _ _ rfl _ _ rfl rfl _ _ hr ?_)
                clear hr
                go_roundw
                case rel => exact ⟨k, by omega, rfl, a', c', by rw [hlen.out], by rw [hlen.out, hst.out]; exact hT5⟩
                case measure => simp [intOf]
end Go.Proofs.Ytmibiaakppkmmaa
