/- Find: the numbers of a key's entries, the walk. -/
import Derived.Test.YtmibiaakppkmmaaFind
namespace Go.Proofs.Ytmibiaakppkmmaa
open Go.RowKit Go.Sep Go.Shelf
set_option linter.unusedVariables false
set_option linter.unusedSimpArgs false
attribute [local go_sem] Oper.semAt_some

set_option maxRecDepth 100000 in
set_option maxHeartbeats 2000000 in
theorem treeFind (E : Env) (w : World) (A : Asn) (r h : Nat) (l : List Ent) (hT : Tree E w A r h l) (ak : Addr) (ck : Nat) (lk : List Val) (hkv : E.vals (.slice (some ak) lk.length ck) lk) (hn : l.length ≤ 100000) (hlk : ∀ e ∈ l, e.l.length ≤ 1000000) :
    Calls Try.prog 15 #[ptr r, .slice (some ak) lk.length ck] w (Ret fun v w' => ∃ E', E.le E' ∧ Tree E' w' A r h l ∧ Env.ints E' v (((l.filter (notAhead lk)).takeWhile (ofKey lk)).map (·.id))) := by
  obtain ⟨pv, ys, hpv, hr0, hr1, hys, hseq⟩ := tree_seq E w A r h l hT (.slice (some ak) lk.length ck) (notAhead lk) (.inr ⟨ak, _, ck, lk, rfl, hkv, rfl⟩) hlk
  have hpc : pv.oneCell' = true := by rcases hpv with rfl | ⟨p, rfl⟩ <;> rfl
  refine (callsIn_wide (n := 3)).1 ?_
  unfold ptr
  refine callsIn_of_wp_marks Try.func15 rfl trivial ?_ rfl
  simp only [Try.ntmps15, List.size_toArray, List.length_cons, List.length_nil, Nat.reduceAdd, Nat.reduceSub, Array.replicate_succ, Array.replicate_zero, List.push_toArray, List.append_toArray, List.nil_append, List.cons_append]
  have hdd : ∀ k : Nat, (Fence.wide.depth.isSome = true → 1 ≤ k) := fun k h => by cases h
  obtain ⟨hg, hso, hs⟩ := hT
  obtain ⟨F, hsx, hcx, ha0, hwF⟩ := hs.frame
  have qe := fun (W : World) a n c => Lib.run_eql_slice_nil (P := Try.prog) W 23 52 a n c 0 0 Try.underlying23
  gi_wp2_with fail
  generalize hX : (w.alloc (.cells #[.slice (some ak) lk.length ck] 23)).alloc (.cells #[.slice none 0 0] 32) = X at *
  have hs4 := ((hsx.alloc (.cells #[.slice (some ak) lk.length ck] 23)).alloc (.cells #[.slice none 0 0] 32)).drew
  rw [hX, World.size_alloc] at hs4
  have hXs : w.heap.size + 2 ≤ X.drew.heap.size := by rw [← hX]; simp [World.drew]
  have hbX : Below w.heap.size w X.drew := below_grown (hwF E _ (.refl E) hs4.drop.drop) (Nat.le_refl _)
  have hcr : X.drew.cell? ⟨r, 0, none⟩ = some pv := (hbX.cell (p := ⟨r, 0, none⟩) hr0).trans hr1
  have hrX : r < X.drew.heap.size := by omega
  have hck : X.drew.cell? ⟨w.heap.size, 0, none⟩ = some (.slice (some ak) lk.length ck) := cell_of_block (off := 0) hs4.p2.block
  have hlX : w.heap.size < X.drew.heap.size := by omega
  refine wpIn_draw_wide ?hq (by kernel_rfl) [(0,3),(1,3),(2,3),(3,0),(4,0),(5,2)] (fun x => x = X.drew) (by kernel_rfl) (by kernel_rfl) rfl rfl ?_
  case hq => rintro ⟨a, w, ⟨v, h, _⟩⟩; cases h
  generalize X.drew = W1 at *
  clear hX
  iterate 3 (refine wpD_pure _ rfl rfl rfl ?_; apply Exists.intro; refine ⟨fun w' => ?_, ?_, ?_⟩; (go_wp2; exact ⟨rfl, rfl, rfl⟩); rfl)
  iterate 2 (refine wpD_reads _ rfl rfl rfl ?_; apply Exists.intro; refine ⟨fun w' hK => ?_, ?_, ?_⟩; (rw [hK]; go_wp2; exact ⟨rfl, rfl, rfl⟩); rfl)
  refine wpD_does (by decide) rfl rfl (fun Nx hNx w' hK => ?_)
  rw [hK]
  go_wp2_with fail
  refine (callsIn_wide.1 (allFn 2 pv _ W1 hpc rfl)).mono ?_
  rintro e w4 ⟨rfl, rfl⟩
  go_wp2_with fail
  refine ⟨rfl, (fun x => x = (W1.alloc (.cells #[pv] 55)).alloc (.cells #[.slice (some ak) lk.length ck] 23)), rfl, fun h => (by cases h), hNx _ _ ?_⟩
  clear hNx hK
  refine wpD_nil (fun w4 hK4 => ?_)
  have hs5 := (hs4.alloc (.cells #[pv] 55)).alloc (.cells #[.slice (some ak) lk.length ck] 23)
  rw [World.size_alloc, ← hK4] at hs5
  have hsz : W1.heap.size + 2 ≤ w4.heap.size := by rw [hK4]; simp
  have hc1 := cell_of_block (off := 0) hs5.p2.block
  have hc2 := cell_of_block (off := 0) hs5.block
  simp only [List.getElem?_toArray, List.getElem?_cons_zero] at hc1 hc2
  have hs6 := hs5.drop.drop
  have hb4 : Below w.heap.size w w4 := below_grown (hwF E _ (.refl E) hs6.drop.drop) (Nat.le_refl _)
  clear hs5 hK4 hcr hck hs4 hbX
  clear hlX hrX
  gi_wp2_with fail
  have hsq := hseq w4 2 W1.heap.size (W1.heap.size + 1) hb4 (by omega) (by omega) hc1 hc2
  have hB : w.heap.size ≤ w4.heap.size := by omega
  have hEc : E.calm w4.heap.size := hs.calm_env.mono hB
  have hI0 : FindI E w w4.heap.size (.slice (some ak) lk.length ck) lk F [] w4 := ⟨E, .slice none 0 0, .refl E, hEc, (fun _ h => by cases h), (hs6.mk_nil (e := 3) (sz := 1)).p2, hb4⟩
  refine wpIn_rangeFunc_ownH rfl (by decide) (gf := 40) (lb := #[.pointer (some ⟨W1.heap.size, 0, none⟩), .pointer (some ⟨W1.heap.size + 1, 0, none⟩)]) rfl trivial (enters_of Try.func40 (by kernel_rfl) rfl) hsq belowK_t (belowK_b (by omega)) (Below.refl _ _) (fun _ => rfl)
    (FindI E w w4.heap.size (.slice (some ak) lk.length ck) lk F) (fun c pre W => c = .exit 0 ∧ ∃ pre0 x, pre = pre0 ++ [x] ∧ x.1.l ≠ lk ∧ FindI E w w4.heap.size (.slice (some ak) lk.length ck) lk F pre0 W)
    (findI_own hB hcx) (fun c => findX_own hB hcx c) hI0 (FindA E w w4.heap.size (.slice (some ak) lk.length ck) F (fun x Bx => { tmps := #[.pointer (some ⟨r, 0, none⟩), .slice (some ak) lk.length ck, undef, .pointer (some ⟨w.heap.size, 0, none⟩), .slice none 0 0, .pointer (some ⟨w.heap.size + 1, 0, none⟩), .pointer (some ⟨Bx, 0, none⟩), .pointer (some ⟨r, 0, none⟩), .bool false, .slice (some ak) lk.length ck, .bool false, undef, .pointer (some ⟨r, 0, none⟩), .pointer (some ⟨r, 0, none⟩), .pointer (some ⟨r, 0, none⟩), pv, .slice (some ak) lk.length ck, .func (.func 40) #[] #[.pointer (some ⟨W1.heap.size, 0, none⟩), .pointer (some ⟨W1.heap.size + 1, 0, none⟩)], x.1.val, undef, undef, undef, undef, undef, undef, undef, undef, undef, undef, undef], defers := [] })) (findA_own hB hcx) ?assign ?body ?done ?stop
  case assign =>
    intro lb pre x W K hi hK
    obtain ⟨⟨k, lx, id⟩, hvx, hlx⟩ := x
    change E.vals k lx at hvx
    change lx.length ≤ 1000000 at hlx
    obtain ⟨ax, cx, rfl⟩ := hvx.slice
    obtain ⟨E', v, h1, h2, h5, hs, hb⟩ := hi
    have hs2 := hs.alloc (.cells #[.slice ax lx.length cx, .int .i64 id] 35)
    have hx := hK _ (W.alloc (.cells #[.slice ax lx.length cx, .int .i64 id] 35)) ((KeepsOthers.alloc _ _).from _) ((Below.refl _ W).alloc hb.size _) ⟨E', v, h1, h2, h5, hs2.drop, hb.trans ((Below.refl _ W).alloc hb.size _)⟩ ⟨W.heap.size, E', _, v, rfl, h1, h2, hs2⟩
    clear hK
    gi_wp2_with fail
    exact hx
  case done =>
    rintro D xs W hD rfl hi hK
    have hall : (l.filter (notAhead lk)).takeWhile (ofKey lk) = l.filter (notAhead lk) := takeWhile_all (by
      obtain ⟨_, _, _, _, h5, _⟩ := hi
      intro e he
      rw [← hys] at he
      obtain ⟨x, hx, rfl⟩ := List.mem_map.1 he
      exact decide_eq_true (h5 x hx))
    obtain ⟨v, c0, ⟨av, nv, cv, rfl⟩, hlt, hend⟩ := find_end (A := A) (r := r) (h := h) hg hso ha0 hB hcx hn hi (by rw [hall]; exact hys) hD hK rfl (.deferred none)
    gi_wp2_with fail
    refine ⟨by simp, .inl ⟨_, _, rfl, run_takeDeferred hK, ?_⟩⟩
    exact ⟨.slice av nv cv, by simp [results, Try.results15], _, rfl, hend⟩
  case stop =>
    rintro D c pre W hD ⟨b, hp⟩ ⟨rfl, pre0, x, rfl, hx, hi⟩ hK
    have hst : pre0.map (·.1) = (l.filter (notAhead lk)).takeWhile (ofKey lk) := by
      rw [← hys, ← hp]
      simp only [List.map_append, List.map_cons, List.map_nil, List.append_assoc, List.cons_append, List.nil_append]
      refine (takeWhile_stop ?_ (decide_eq_false hx)).symm
      obtain ⟨_, _, _, _, h5, _⟩ := hi
      intro e he
      obtain ⟨y, hy, rfl⟩ := List.mem_map.1 he
      exact decide_eq_true (h5 y hy)
    obtain ⟨v, c0, ⟨av, nv, cv, rfl⟩, hlt, hend⟩ := find_end (A := A) (r := r) (h := h) hg hso ha0 hB hcx hn hi hst hD hK rfl (.deferred none)
    gi_wp2_with fail
    refine ⟨by simp, .inl ⟨_, _, rfl, run_takeDeferred hK, ?_⟩⟩
    exact ⟨.slice av nv cv, by simp [results, Try.results15], _, rfl, hend⟩
  case body =>
    rintro lb pre x a' W hlb ⟨rec, hrec⟩ hI ⟨Bx, E', ns, v, rfl, h1, h2, hs⟩ hlen
    have hI0 := hI
    obtain ⟨E2, v2, g1, g2, g5, hs2, hb⟩ := hI
    have hvv : v = v2 := by
      have e1 := cell_of_block (off := 0) hs.p2.block
      have e2 := cell_of_block (off := 0) hs2.block
      rw [e1] at e2
      simpa using e2
    subst hvv
    have hee := nums_det hs.p3 hs2.p2
    subst hee
    clear hs2 g1 g2
    obtain ⟨⟨k, lx, id⟩, hvx, hlx⟩ := x
    change E.vals k lx at hvx
    change lx.length ≤ 1000000 at hlx
    obtain ⟨ax, cx, rfl⟩ := hvx.slice
    simp only at hs
    have hvx' := hvx.le h1
    have hkv' := hkv.le h1
    obtain ⟨b0, b1, b2, b3, b4⟩ := entFacts _ hs
    have hsT := hs.p4
    have t0 := hsT.lt
    have t1 := cell_of_block (off := 0) hsT.block
    simp only [List.getElem?_toArray, List.getElem?_cons_zero] at t1
    obtain ⟨av, cv, rfl⟩ := nums_slice hs.p3
    have hel : (pre.map (·.1.id)).length ≤ 100000 := by
      have e2 := congrArg List.length hys
      have e3 := List.length_filter_le (notAhead lk) l
      simp only [List.length_map] at e2 ⊢
      omega
    generalize hns : pre.map (·.1.id) = ns at *
    replace hns := Lib.hid hns
    obtain ⟨G, hr, hsG, hGX, hwG, hrest⟩ := hs.frame2
    gi_wp2_with fail
    refine ⟨trivial, (CallsIn.inRound lb (callsIn_wide.2 (rowSame E' W G _ _ lx lk hsG hvx' hkv'))).mono ?_⟩
    rintro e W1' ⟨_, rfl, rfl, hsG1⟩
    have hgr := hwG E' W1' (.refl E') hsG1
    by_cases hz : lx = lk
    · have hzd : decide (lx = lk) = true := by simpa using hz
      replace hz := Lib.hid hz
      have hs1 := (hsG1.mono hGX).keep
      have hb1 : Below w.heap.size w W1' := hb.trans (below_grown hgr hb.size)
      clear hsG hsG1 hGX hwG hrest b0 b1 b2 b3 b4 t0 t1
      obtain ⟨G, hr, hsG, hGX, hwG, hrest⟩ := hs1.frame2
      have hX := hsG.mono hGX
      obtain ⟨i0, el⟩ := elInt
      have hX1 : sat E' W1' (nums (.slice av ns.length cv) ns * (pts Bx (.cells #[.slice ax lx.length cx, .int .i64 id] 35 (0, 0)) * (pts (w.heap.size + 1) (.cells #[.slice av ns.length cv] 32 (0, 0)) * (pts w.heap.size (.cells #[.slice (some ak) lk.length ck] 23 (0, 0)) * (F * exact hr))))) := hX.to (by ac_rfl)
      have hb2 := entFacts _ hX1.p2
      obtain ⟨b0, b1, b2, b3, b4⟩ := hb2
      have o0 := hX1.p3.lt
      have o1 := cell_of_block (off := 0) hX1.p3.block
      simp only [List.getElem?_toArray, List.getElem?_cons_zero] at o1
      have hX2 := (hX1.alloc (.cells #[.int .i64 id] 3)).p2
      have hfy : firsts Try.prog (W1'.alloc (.cells #[.int .i64 id] 3)) 1 1 (.slice (some ⟨W1'.heap.size, 0, none⟩) 1 1) [.int .i64 id] := by
        refine firsts_some rfl fun j x hj => ?_
        rw [add_lit, cell_of_block hX2.p2.block]
        simpa using hj
      obtain ⟨v', w6, hr6, hs6, _, hsz6, _, _⟩ := append_row el 32 hX2 (some ⟨W1'.heap.size, 0, none⟩) 1 1 _ rfl hfy (fun u hu => by simp at hu; subst hu; rfl) (by unfold maxLen; omega) (by omega)
      obtain ⟨g6, c6, rfl, _, _⟩ := row_some hs6 (by omega)
      have hsz0 : W1'.heap.size ≤ w6.heap.size := by rw [World.size_alloc] at hsz6; omega
      have hs7 := hs6.p4
      have q0 := hs7.lt
      have q1 := frozen_of_block (off := 0) hs7.block
      have q2 := cell_of_block (off := 0) hs7.block
      simp only [List.getElem?_toArray, List.getElem?_cons_zero] at q2
      have hs8 := hs7.setCell (off := 0) (.slice (some ⟨g6, 0, none⟩) (ns.length + 1) c6)
      simp only [List.setIfInBounds_toArray, List.set_cons_zero] at hs8
      have hsz8 : W1'.heap.size ≤ (w6.setCell ⟨w.heap.size + 1, 0, none⟩ (.slice (some ⟨g6, 0, none⟩) (ns.length + 1) c6)).heap.size := by simpa using hsz0
      clear hX hX1 hX2 hfy hs6 hs7 hsz0 hsz6
      gi_wp2_with (gi_at_builtin; refine wpListIn_append_run rfl _ _ _ _ rfl _ _ rfl rfl _ _ hr6 ?_)
      generalize w6.setCell ⟨w.heap.size + 1, 0, none⟩ (.slice (some ⟨g6, 0, none⟩) (ns.length + 1) c6) = w8 at *
      clear hr6 b0 b1 b2 b3 b4 o0 o1 q0 q1 q2
      have hkf : KeepsFrom w4.heap.size W1' w8 := ⟨hsz8, fun k o hBk hk ho => hrest _ (Sep.Calm.pts.sep (Sep.Calm.pts.sep (calm_nums.sep (Sep.Calm.pts.sep (hcx.mono hB))))) h2 E' w8 _ ((hs8.drop.drop.drop.drop.drop.to (sep_comm _ _)).to (sep_one _).symm |>.to (sep_assoc _ _ _)) k o hBk hk ho⟩
      have hgw := hwF E' w8 h1 hs8.drop.drop.drop.drop.drop.keep
      have hbw8 : Below w.heap.size w w8 := below_grown hgw (Nat.le_refl _)
      have hbW : Below w.heap.size W1' w8 := ⟨hgw.os.trans hb1.os.symm, hgw.tape.trans hb1.tape.symm, hgw.output.trans hb1.output.symm, hsz8, fun k hk => (hbw8.block k hk).trans (hb1.block k hk).symm⟩
      have hWI : FindI E w w4.heap.size (.slice (some ak) lk.length ck) lk F (pre ++ [⟨⟨.slice ax lx.length cx, lx, id⟩, hvx, hlx⟩]) w8 :=
        ⟨E', .slice (some ⟨g6, 0, none⟩) (ns.length + 1) c6, h1, h2, fun x hx => by
          rcases List.mem_append.1 hx with hx | hx
          · exact g5 x hx
          · rw [List.mem_singleton.1 hx]; exact hz.out, by
          have hx : (pre ++ [(⟨⟨.slice ax lx.length cx, lx, id⟩, hvx, hlx⟩ : GEnt E)]).map (·.1.id) = ns ++ [id] := by rw [List.map_append, hns.out]; rfl
          have h9 : sat E' w8 (pts (w.heap.size + 1) (.cells #[.slice (some ⟨g6, 0, none⟩) (ns.length + 1) c6] 32 (0, 0)) * (row 3 1 (.slice (some ⟨g6, 0, none⟩) (ns.length + 1) c6) (ns.length + 1) (ns.map (Value.int .i64) ++ [.int .i64 id]) * (pts w.heap.size (.cells #[.slice (some ak) lk.length ck] 23 (0, 0)) * F))) := by
            have h9 := hs8.p3.drop.p3.drop
            have h10 := (h9.to (last_first _ _ _ _ _)).drop
            exact h10
          rw [hx]
          unfold nums
          rw [List.length_append, List.map_append]
          exact h9, hbw8⟩
      exact ⟨(KeepsFrom.of_grownBy hgr (fun j e => by cases e)).trans hkf, (below_grown hgr hb.size).trans hbW, hWI⟩
    · have hzd : decide (lx = lk) = false := by simpa using hz
      have hI1 := findI_own (lk := lk) hB hcx pre W W1' none hI0 hgr (fun r e => by cases e)
      replace hz := Lib.hid hz
      gi_wp2_with fail
      exact ⟨KeepsFrom.of_grownBy hgr (fun j e => by cases e), rfl, pre, _, rfl, hz.out, hI1⟩
end Go.Proofs.Ytmibiaakppkmmaa
