/- Walk: a tree's entries in their row. -/
import Derived.Test.YtmibiaakppkmmaaDet
import Derived.Test.YtmibiaakppkmmaaWhole
namespace Go.Proofs.Ytmibiaakppkmmaa
open Go.RowKit Go.Sep Go.Shelf
set_option linter.unusedVariables false
set_option linter.unusedSimpArgs false
attribute [local go_sem] Oper.semAt_some

theorem goods_list {E : Env} : ∀ {l : List Ent}, Env.goods E l → (∀ e ∈ l, e.l.length ≤ 1000000) → ∃ ys : List (GEnt E), ys.map (·.1) = l
  | [], _, _ => ⟨[], rfl⟩
  | e :: l, h, hb => by
    obtain ⟨ys, hy⟩ := goods_list (l := l) (fun x hx => h x (List.mem_cons_of_mem _ hx)) (fun x hx => hb x (List.mem_cons_of_mem _ hx))
    exact ⟨⟨e, h e (by simp), hb e (by simp)⟩ :: ys, by rw [List.map_cons, hy]⟩

/-- the tree as what comes of it, from a key on -/
theorem tree_seq (E : Env) (w : World) (A : Asn) (r h : Nat) (l : List Ent) (hT : Tree E w A r h l) (fr : Value) (keep : Ent → Bool) (hfr : From E fr keep) (hlk : ∀ e ∈ l, e.l.length ≤ 1000000) :
    ∃ (pv : Value) (ys : List (GEnt E)), (pv = .pointer none ∨ ∃ p, pv = .pointer (some ⟨p, 0, none⟩)) ∧ r < w.heap.size ∧ w.cell? ⟨r, 0, none⟩ = some pv ∧ ys.map (·.1) = l.filter keep ∧
      ∀ (w4 : World) (n B1 B2 : Nat), Below w.heap.size w w4 → B1 < w4.heap.size → B2 < w4.heap.size → w4.cell? ⟨B1, 0, none⟩ = some pv → w4.cell? ⟨B2, 0, none⟩ = some fr →
        SeqStopsK Fence.wide n Try.prog 40 #[.pointer (some ⟨B1, 0, none⟩), .pointer (some ⟨B2, 0, none⟩)] (fun x : GEnt E => #[x.1.val]) (Below w.heap.size) (fun xs => xs = ys) (fun pre => pre <+: ys) ys.length w4 := by
  obtain ⟨hg, hso, hs⟩ := hT
  rcases h with _ | d
  · obtain ⟨rfl, hs2⟩ := sat_tree_zero.1 hs
    obtain ⟨r0, r1, _⟩ := hd_cells hs2
    exact ⟨_, [], .inl rfl, r0, r1, rfl, fun w4 n B1 B2 hB l1 l2 c1 c2 => noneStops E w4 n _ B1 B2 l1 c1⟩
  · obtain ⟨p, t, rfl, hok, h1, h7, hs2⟩ := sat_tree_succ.1 hs
    obtain ⟨r0, r1, _⟩ := hd_cells hs2
    obtain ⟨ys, hy⟩ := goods_list (E := E) (l := (flat d t).filter keep) (fun x hx => hg x (List.mem_filter.1 hx).1) (fun x hx => hlk x (List.mem_filter.1 hx).1)
    exact ⟨_, ys, .inr ⟨p, rfl⟩, r0, r1, hy, fun w4 n B1 B2 hB l1 l2 c1 c2 => allStops E w w4 _ n d p t fr keep hfr ys hs2.p2 hok h7 hso hg hy hB B1 B2 l1 l2 c1 c2⟩

theorem From.slice {E : Env} {fr : Value} {keep : Ent → Bool} (h : From E fr keep) : ∃ a n c, fr = .slice a n c := by
  rcases h with ⟨rfl, _⟩ | ⟨a, n, c, _, rfl, _⟩
  · exact ⟨_, _, _, rfl⟩
  · exact ⟨_, _, _, rfl⟩

theorem last_first (a b c d e : Asn) : a * (b * (c * (d * e))) = e * (a * (b * (c * d))) := by ac_rfl

/-- up to which entry -/
def upto (tl : List Val) (e : Ent) : Bool := tl.isEmpty || decide (kcmp e.l tl < 0)

/-- between two rounds of a walk -/
def WalkI (E : Env) (w : World) (B : Nat) (tv : Value) (tl : List Val) (F : Asn) (pre : List (GEnt E)) (W : World) : Prop :=
  ∃ E' es v, E.le E' ∧ E'.calm B ∧ Env.goods E' es ∧ kvs es = kvs (pre.map (·.1)) ∧ (∀ x ∈ pre, upto tl x.1 = true) ∧
    sat E' W (pts (w.heap.size + 1) (.cells #[v] 29 (0, 0)) * (ents v es * (pts w.heap.size (.cells #[tv] 23 (0, 0)) * F))) ∧ Below w.heap.size w W

/-- behind the assignment to the loop's variable -/
def WalkA (E : Env) (w : World) (B : Nat) (tv : Value) (F : Asn) (f : GEnt E → Nat → Act) (x : GEnt E) (a : Act) (W : World) : Prop :=
  ∃ Bx E' es v, a = f x Bx ∧ E.le E' ∧ E'.calm B ∧ Env.goods E' es ∧
    sat E' W (pts Bx (.cells #[x.1.k, .int .i64 x.1.id] 35 (0, 0)) * (pts (w.heap.size + 1) (.cells #[v] 29 (0, 0)) * (ents v es * (pts w.heap.size (.cells #[tv] 23 (0, 0)) * F))))

theorem calm_ents {B : Nat} {v : Value} {es : List Ent} : Sep.Calm B (ents v es) := Sep.Calm.row

theorem walkI_own {E : Env} {w : World} {B : Nat} {tv : Value} {tl : List Val} {F : Asn} (hB : w.heap.size ≤ B) (hc : Sep.Calm w.heap.size (F)) : OwnFrom B (WalkI E w B tv tl F) := by
  rintro pre W W' row ⟨E', es, v, h1, h2, h3, h4, h5, hs, hb⟩ hg hr
  refine ⟨E', es, v, h1, h2, h3, h4, h5, hs.turned (Sep.Calm.pts.sep (calm_ents.sep (Sep.Calm.pts.sep (hc.mono hB)))) h2 hg hr, ?_⟩
  exact hb.trans ⟨hg.os, hg.tape, hg.output, hg.size, fun k hk => hg.block k (by have := hb.size; omega) (fun e => by have := (hr k e.symm).1; omega)⟩

theorem walkA_own {E : Env} {w : World} {B : Nat} {tv : Value} {F : Asn} {f : GEnt E → Nat → Act} (hB : w.heap.size ≤ B) (hc : Sep.Calm w.heap.size (F)) (x : GEnt E) (a : Act) : OwnFrom B (fun (_ : Unit) W => WalkA E w B tv F f x a W) := by
  rintro _ W W' row ⟨Bx, E', es, v, ha, h1, h2, h3, hs⟩ hg hr
  exact ⟨Bx, E', es, v, ha, h1, h2, h3, hs.turned (Sep.Calm.pts.sep (Sep.Calm.pts.sep (calm_ents.sep (Sep.Calm.pts.sep (hc.mono hB))))) h2 hg hr⟩

theorem walkX_own {E : Env} {w : World} {B : Nat} {tv : Value} {tl : List Val} {F : Asn} (hB : w.heap.size ≤ B) (hc : Sep.Calm w.heap.size (F)) (c : Code) :
    OwnFrom B (fun (pre : List (GEnt E)) W => c = .exit 0 ∧ ∃ pre0 x, pre = pre0 ++ [x] ∧ upto tl x.1 = false ∧ WalkI E w B tv tl F pre0 W) := by
  rintro pre W W' row ⟨h1, pre0, x, h2, h3, h4⟩ hg hr
  exact ⟨h1, pre0, x, h2, h3, walkI_own hB hc pre0 W W' row h4 hg hr⟩

theorem takeWhile_all {p : Ent → Bool} : ∀ {l : List Ent}, (∀ e ∈ l, p e = true) → l.takeWhile p = l
  | [], _ => rfl
  | e :: l, h => by rw [List.takeWhile_cons_of_pos (h e (by simp)), takeWhile_all (fun x hx => h x (List.mem_cons_of_mem _ hx))]

theorem takeWhile_stop {p : Ent → Bool} {x : Ent} {b : List Ent} : ∀ {a : List Ent}, (∀ e ∈ a, p e = true) → p x = false → (a ++ x :: b).takeWhile p = a
  | [], _, hx => by rw [List.nil_append, List.takeWhile_cons_of_neg (by simp [hx])]
  | e :: a, h, hx => by rw [List.cons_append, List.takeWhile_cons_of_pos (h e (by simp)), takeWhile_stop (fun y hy => h y (List.mem_cons_of_mem _ hy)) hx]

/-- what a walk has brought, at the return -/
theorem walk_end {E : Env} {w W : World} {A : Asn} {B r h D : Nat} {l : List Ent} {tv : Value} {tl : List Val} {F : Asn} {ys pre : List (GEnt E)} {keep : Ent → Bool} (hg : Env.goods E l) (hso : sorted l) (ha : ∀ x, F x → (tree r h l * A * ex fun h => Sep.exact h) x) (hB : w.heap.size ≤ B) (hc : Sep.Calm w.heap.size (F)) (hn : l.length ≤ 100000)
    (hi : WalkI E w B tv tl F pre W) (hys : ys.map (·.1) = l.filter keep) (hp : pre.map (·.1) = (l.filter keep).takeWhile (upto tl)) (hD : B ≤ D) {o : Obj} (hK : W.heap[D]? = some o) (ho : o.isCells = false) (o' : Obj) :
    ∃ v, W.cell? ⟨w.heap.size + 1, 0, none⟩ = some v ∧ (∃ a n c, v = .slice a n c) ∧ w.heap.size + 1 < W.heap.size ∧ ∃ E' es, E.le E' ∧ Tree E' (W.putObj D o') A r h l ∧ Env.ents E' v es ∧ kvs es = kvs ((l.filter keep).takeWhile (upto tl)) := by
  have hi2 := (walkI_own hB hc).putObj o' hi hD hK ho
  obtain ⟨_, _, v0, _, _, _, _, _, hs0, _⟩ := hi
  obtain ⟨E', es, v, h1, h2, h3, h4, h5, hs, hb⟩ := hi2
  have c0 := cell_of_block (off := 0) hs0.block
  have c1 := cell_of_block (off := 0) hs.block
  have hv : v0 = v := by
    have hne : w.heap.size + 1 ≠ D := by
      intro e
      have := hs0.block
      rw [e, hK] at this
      cases this
      cases ho
    have : (W.putObj D o').cell? ⟨w.heap.size + 1, 0, none⟩ = W.cell? ⟨w.heap.size + 1, 0, none⟩ := World.cell?_of_block (World.putObj_heap_other hne)
    rw [c0, c1] at this
    simpa using this.symm
  subst hv
  obtain ⟨a, c, hv⟩ := slice_ents hs.p2
  have hl : es.length ≤ 1000000 := by
    have := congrArg List.length h4
    rw [hp] at this
    simp only [kvs, List.length_map] at this
    have h6 := (List.takeWhile_sublist (l := l.filter keep) (upto tl)).length_le
    have h7 := List.length_filter_le keep l
    omega
  obtain ⟨E2, hE2, hs2, hents⟩ := ents_freeze hl h3 hs.p2
  refine ⟨v0, by rw [c0]; rfl, ⟨a, _, c, hv⟩, hs0.lt, E2, es, h1.trans hE2, ⟨hg.le (h1.trans hE2), hso, ?_⟩, hents, by rw [h4, hp]⟩
  exact (hs2.drop.drop.mono ha).keep

set_option maxRecDepth 100000 in
set_option maxHeartbeats 2000000 in
theorem treeWalk (E : Env) (w : World) (A : Asn) (r h : Nat) (l : List Ent) (hT : Tree E w A r h l) (fr : Value) (keep : Ent → Bool) (hfr : From E fr keep) (tv : Value) (tl : List Val) (hto : E.vals tv tl) (hn : l.length ≤ 100000) (hlk : ∀ e ∈ l, e.l.length ≤ 1000000) :
    Calls Try.prog 11 #[ptr r, fr, tv] w (Ret fun v w' => ∃ E' es, E.le E' ∧ Tree E' w' A r h l ∧ Env.ents E' v es ∧ kvs es = kvs ((l.filter keep).takeWhile (upto tl))) := by
  obtain ⟨pv, ys, hpv, hr0, hr1, hys, hseq⟩ := tree_seq E w A r h l hT fr keep hfr hlk
  obtain ⟨afr, nfr, cfr, rfl⟩ := hfr.slice
  obtain ⟨atv, ctv, rfl⟩ := hto.slice
  have hpc : pv.oneCell' = true := by rcases hpv with rfl | ⟨p, rfl⟩ <;> rfl
  refine (callsIn_wide (n := 3)).1 ?_
  unfold ptr
  refine callsIn_of_wp_marks Try.func11 rfl trivial ?_ rfl
  simp only [Try.ntmps11, List.size_toArray, List.length_cons, List.length_nil, Nat.reduceAdd, Nat.reduceSub, Array.replicate_succ, Array.replicate_zero, List.push_toArray, List.append_toArray, List.nil_append, List.cons_append]
  have hdd : ∀ k : Nat, (Fence.wide.depth.isSome = true → 1 ≤ k) := fun k h => by cases h
  obtain ⟨hg, hso, hs⟩ := hT
  obtain ⟨F, hsx, hcx, ha0, hwF⟩ := hs.frame
  have hs4 := (((hsx.alloc (.cells #[.slice atv tl.length ctv] 23)).alloc (.cells #[.slice none 0 0] 29)).alloc' (.cells #[pv] 55)).alloc' (.cells #[.slice afr nfr cfr] 23)
  rw [World.size_alloc] at hs4
  gi_wp2_with fail
  refine ⟨trivial, ?_⟩
  refine (allFn 2 pv _ _ hpc rfl).mono ?_
  rintro e w4 ⟨rfl, rfl⟩
  simp only [World.size_alloc]
  have hb4 : Below w.heap.size w ((((w.alloc (.cells #[.slice atv tl.length ctv] 23)).alloc (.cells #[.slice none 0 0] 29)).alloc (.cells #[pv] 55)).alloc (.cells #[.slice afr nfr cfr] 23)) := ((((Below.refl _ w).alloc (Nat.le_refl _) _).alloc (by simp) _).alloc (by simp; omega) _).alloc (by simp; omega) _
  have hs5 := (((hsx.alloc (.cells #[.slice atv tl.length ctv] 23)).alloc (.cells #[.slice none 0 0] 29)).alloc (.cells #[pv] 55)).alloc (.cells #[.slice afr nfr cfr] 23)
  simp only [World.size_alloc] at hs5
  have hc1 := cell_of_block (off := 0) hs5.p2.block
  have hc2 := cell_of_block (off := 0) hs5.block
  simp only [List.getElem?_toArray, List.getElem?_cons_zero] at hc1 hc2
  clear hs5
  have hsz : ((((w.alloc (.cells #[.slice atv tl.length ctv] 23)).alloc (.cells #[.slice none 0 0] 29)).alloc (.cells #[pv] 55)).alloc (.cells #[.slice afr nfr cfr] 23)).heap.size = w.heap.size + 4 := by simp
  gi_wp2_with fail
  generalize (((w.alloc (.cells #[.slice atv tl.length ctv] 23)).alloc (.cells #[.slice none 0 0] 29)).alloc (.cells #[pv] 55)).alloc (.cells #[.slice afr nfr cfr] 23) = w4 at *
  have hsq := hseq w4 2 (w.heap.size + 1 + 1) (w.heap.size + 1 + 1 + 1) hb4 (by omega) (by omega) hc1 hc2
  have hB : w.heap.size ≤ w4.heap.size := by omega
  have hEc : E.calm w4.heap.size := hs.calm_env.mono hB
  have hI0 : WalkI E w w4.heap.size (.slice atv tl.length ctv) tl F [] w4 := ⟨E, [], .slice none 0 0, .refl E, hs.calm_env.mono hB, (fun _ h => by cases h), rfl, (fun _ h => by cases h), (hs4.mk_nil (e := 35) (sz := 2)).p2, hb4⟩
  refine wpIn_rangeFunc_ownH rfl (by decide) (gf := 40) (lb := #[.pointer (some ⟨w.heap.size + 1 + 1, 0, none⟩), .pointer (some ⟨w.heap.size + 1 + 1 + 1, 0, none⟩)]) rfl trivial (enters_of Try.func40 (by kernel_rfl) rfl) hsq belowK_t (belowK_b (by omega)) (Below.refl _ _) (fun _ => rfl)
    (WalkI E w w4.heap.size (.slice atv tl.length ctv) tl F) (fun c pre W => c = .exit 0 ∧ ∃ pre0 x, pre = pre0 ++ [x] ∧ upto tl x.1 = false ∧ WalkI E w w4.heap.size (.slice atv tl.length ctv) tl F pre0 W)
    (walkI_own hB hcx) (fun c => walkX_own hB hcx c) hI0 (WalkA E w w4.heap.size (.slice atv tl.length ctv) F (fun x Bx => { tmps := #[.pointer (some ⟨r, 0, none⟩), .slice afr nfr cfr, .slice atv tl.length ctv, undef, undef, .pointer (some ⟨w.heap.size, 0, none⟩), .slice none 0 0, .pointer (some ⟨w.heap.size + 1, 0, none⟩), .pointer (some ⟨Bx, 0, none⟩), .pointer (some ⟨r, 0, none⟩), .bool false, .pointer (some ⟨r, 0, none⟩), .pointer (some ⟨r, 0, none⟩), .pointer (some ⟨r, 0, none⟩), pv, .slice afr nfr cfr, .func (.func 40) #[] #[.pointer (some ⟨w.heap.size + 1 + 1, 0, none⟩), .pointer (some ⟨w.heap.size + 1 + 1 + 1, 0, none⟩)], x.1.val, undef, undef, undef, undef, undef, undef, undef, undef, undef, undef, undef, undef, undef, undef, undef, undef], defers := [] })) (walkA_own hB hcx) ?assign ?body ?done ?stop
  case assign =>
    intro lb pre x W K hi hK
    obtain ⟨⟨k, lk, id⟩, hvx, hlx⟩ := x
    change E.vals k lk at hvx
    change lk.length ≤ 1000000 at hlx
    obtain ⟨ak, ck, rfl⟩ := hvx.slice
    obtain ⟨E', es, v, h1, h2, h3, h4, h5, hs, hb⟩ := hi
    have hs2 := hs.alloc (.cells #[.slice ak lk.length ck, .int .i64 id] 35)
    have hx := hK _ (W.alloc (.cells #[.slice ak lk.length ck, .int .i64 id] 35)) ((KeepsOthers.alloc _ _).from _) ((Below.refl _ W).alloc hb.size _) ⟨E', es, v, h1, h2, h3, h4, h5, hs2.drop, hb.trans ((Below.refl _ W).alloc hb.size _)⟩ ⟨W.heap.size, E', es, v, rfl, h1, h2, h3, hs2⟩
    clear hK
    gi_wp2_with fail
    exact hx
  case done =>
    rintro D xs W hD rfl hi hK
    have hall : (l.filter keep).takeWhile (upto tl) = l.filter keep := takeWhile_all (by
      obtain ⟨_, _, _, _, _, _, _, h5, _⟩ := hi
      intro e he
      rw [← hys] at he
      obtain ⟨x, hx, rfl⟩ := List.mem_map.1 he
      exact h5 x hx)
    obtain ⟨v, c0, ⟨av, nv, cv, rfl⟩, hlt, hend⟩ := walk_end (A := A) (r := r) (h := h) hg hso ha0 hB hcx hn hi hys (by rw [hall]; exact hys) hD hK rfl (.deferred none)
    gi_wp2_with fail
    refine ⟨by simp, .inl ⟨_, _, rfl, run_takeDeferred hK, ?_⟩⟩
    exact ⟨.slice av nv cv, by simp [results, Try.results11], _, rfl, hend⟩
  case stop =>
    rintro D c pre W hD ⟨b, hp⟩ ⟨rfl, pre0, x, rfl, hx, hi⟩ hK
    have hst : pre0.map (·.1) = (l.filter keep).takeWhile (upto tl) := by
      rw [← hys, ← hp]
      simp only [List.map_append, List.map_cons, List.map_nil, List.append_assoc, List.cons_append, List.nil_append]
      refine (takeWhile_stop ?_ hx).symm
      obtain ⟨_, _, _, _, _, _, _, h5, _⟩ := hi
      intro e he
      obtain ⟨y, hy, rfl⟩ := List.mem_map.1 he
      exact h5 y hy
    obtain ⟨v, c0, ⟨av, nv, cv, rfl⟩, hlt, hend⟩ := walk_end (A := A) (r := r) (h := h) hg hso ha0 hB hcx hn hi hys hst hD hK rfl (.deferred none)
    gi_wp2_with fail
    refine ⟨by simp, .inl ⟨_, _, rfl, run_takeDeferred hK, ?_⟩⟩
    exact ⟨.slice av nv cv, by simp [results, Try.results11], _, rfl, hend⟩
  case body =>
    rintro lb pre x a' W hlb ⟨rec, hrec⟩ hI ⟨Bx, E', es, v, rfl, h1, h2, h3, hs⟩ hlen
    have hI0 := hI
    obtain ⟨E2, es2, v2, g1, g2, g3, g4, g5, hs2, hb⟩ := hI
    have hvv : v = v2 := by
      have e1 := cell_of_block (off := 0) hs.p2.block
      have e2 := cell_of_block (off := 0) hs2.block
      rw [e1] at e2
      simpa using e2
    subst hvv
    have hee := ents_det hs.p3 hs2.p2 h3 g3
    subst hee
    clear hs2 g1 g2 g3
    obtain ⟨⟨k, lk, id⟩, hvx, hlx⟩ := x
    change E.vals k lk at hvx
    change lk.length ≤ 1000000 at hlx
    obtain ⟨ak, ck, rfl⟩ := hvx.slice
    simp only at hs
    have hvx' := hvx.le h1
    have hto' := hto.le h1
    obtain ⟨b0, b1, b2, b3, b4⟩ := entFacts _ hs
    have hsT := hs.p4
    have t0 := hsT.lt
    have t1 := cell_of_block (off := 0) hsT.block
    simp only [List.getElem?_toArray, List.getElem?_cons_zero] at t1
    have hvs : ∃ av cv, v = .slice av es.length cv := slice_ents hs.p3
    obtain ⟨av, cv, rfl⟩ := hvs
    have hel : es.length ≤ 100000 := by
      have e1 := congrArg List.length g4
      have e2 := congrArg List.length hys
      have e3 := List.length_filter_le keep l
      simp only [kvs, List.length_map] at e1 e2
      omega
    by_cases htl : tl = []
    · subst htl
      simp only [List.length_nil] at *
      gi_wp2_with fail
      refine ⟨trivial, ?_⟩
      gi_wp2_with fail
      clear b0 b1 b2 b3 b4 t0 t1
      obtain ⟨G, hr, hsG, hGX, hwG, hrest⟩ := hs.frame2
      refine wpIn_draw_lit ?hq (by kernel_rfl) [(0,0),(1,0),(2,1),(3,1),(4,2),(5,2)] (sat E' · G) (by kernel_rfl) (by kernel_rfl) rfl hsG.drew ?_
      case hq => rintro ⟨a, w, h⟩; exact h.elim
      (refine wpD_reads _ rfl rfl rfl ?_; apply Exists.intro; refine ⟨fun w' hK => ?_, ?_, ?_⟩; (have hX := (hK.mono hGX).keep; have o1 := cell_of_block (off := 0) hX.p2.block; have o0 := hX.p2.lt; simp only [List.getElem?_toArray, List.getElem?_cons_zero] at o1; go_wp2; exact ⟨rfl, rfl, rfl⟩); rfl)
      (refine wpD_reads _ rfl rfl rfl ?_; apply Exists.intro; refine ⟨fun w' hK => ?_, ?_, ?_⟩; (have hX := (hK.mono hGX).keep; obtain ⟨b0, b1, b2, b3, b4⟩ := entFacts _ hX; go_wp2; exact ⟨rfl, rfl, rfl⟩); rfl)
      refine wpD_does (by decide) rfl rfl (fun Nx hNx w' hK => ?_)
      go_wp2_with fail
      refine (cloneEnt E' _ _ _ id lk hK hvx' hlx).mono ?_
      rintro e w5 ⟨_, rfl, k', E5, rfl, hE5, hs5, hv5⟩
      obtain ⟨ak5, ck5, rfl⟩ := hv5.slice
      go_wp2_with fail
      refine ⟨rfl, (fun x => sat E5 x _), hs5, fun _ x hx => hx.le hE5, hNx _ _ ?_⟩
      clear hs5 hK hNx
      refine wpD_does (by decide) rfl rfl (fun Nx hNx w' hK => ?_)
      go_wp2_with fail
      refine ⟨rfl, (fun x => sat E5 x _), hK.alloc (.cells #[.slice ak5 lk.length ck5, .int .i64 id] 35), fun _ x hx => hx.drop, hNx _ _ ?_⟩
      generalize w'.heap.size = b at *
      clear hK hNx
      refine wpD_does (by decide) rfl rfl (fun Nx hNx w' hK => ?_)
      have hX := hK.mono (sep_mono (fun _ h => h) hGX)
      have hX2 : sat E5 w' (ents (.slice av es.length cv) es * (pts b (.cells #[.slice ak5 lk.length ck5, .int .i64 id] 35 (0, 0)) * (pts (w.heap.size + 1) (.cells #[.slice av es.length cv] 29 (0, 0)) * (pts Bx (.cells #[.slice ak lk.length ck, .int .i64 id] 35 (0, 0)) * (pts w.heap.size (.cells #[.slice atv 0 ctv] 23 (0, 0)) * (F * exact hr)))))) := hX.to (by ac_rfl)
      obtain ⟨i0, el⟩ := elEnt
      have hfy : firsts Try.prog w' 2 1 (.slice (some ⟨b, 0, none⟩) 1 1) [.slice ak5 lk.length ck5, .int .i64 id] := by
        refine firsts_some rfl fun j x hj => ?_
        rw [add_lit, cell_of_block hX2.p2.block]
        simpa using hj
      obtain ⟨v', w6, hr6, hs6, _, hsz6, _, _⟩ := append_row el 29 hX2 (some ⟨b, 0, none⟩) 1 1 _ rfl hfy (fun u hu => by simp at hu; rcases hu with rfl | rfl <;> rfl) (by unfold maxLen; omega) (by omega)
      obtain ⟨g6, c6, rfl, _, _⟩ := row_some hs6 (by omega)
      go_wp2_with (at_builtin; refine Lib.wpList_append_run _ rfl _ _ _ _ rfl _ _ rfl rfl _ _ hr6 ?_)
      have hsz0 : W.heap.size ≤ w6.heap.size := Nat.le_trans (hwG E5 w' hE5 hK.drop).size hsz6
      refine ⟨rfl, (fun x => sat E5 x _ ∧ W.heap.size ≤ x.heap.size), ⟨hs6.p3, hsz0⟩, fun h => (by cases h), hNx _ _ ?_⟩
      clear hs6 hsz0 hsz6 hX hX2 hr6 hfy hK hNx
      refine wpD_does (by decide) rfl rfl (fun Nx hNx w' hK => ?_)
      obtain ⟨hK, hsz⟩ := hK
      have o0 := hK.lt
      have o1 := cell_of_block (off := 0) hK.block
      have o2 := frozen_of_block (off := 0) hK.block
      simp only [List.getElem?_toArray, List.getElem?_cons_zero] at o1
      have hs7 := hK.setCell (off := 0) (.slice (some ⟨g6, 0, none⟩) (es.length + 1) c6)
      go_wp2_with fail
      refine ⟨rfl, (fun x => sat E5 x _ ∧ W.heap.size ≤ x.heap.size), ⟨hs7, by simpa using hsz⟩, fun h => (by cases h), hNx _ _ ?_⟩
      clear hs7 hK hNx hsz o0 o1 o2
      refine wpD_nil (fun w8 hK => ?_)
      obtain ⟨hs8, hsz8⟩ := hK
      have hkf : KeepsFrom w4.heap.size W w8 := ⟨hsz8, fun k o hBk hk ho => hrest _ (Sep.Calm.pts.sep (Sep.Calm.pts.sep (calm_ents.sep (Sep.Calm.pts.sep (hcx.mono hB))))) h2 E5 w8 _ ((hs8.drop.drop.drop.drop.drop.to (sep_comm _ _)).to (sep_one _).symm |>.to (sep_assoc _ _ _)) k o hBk hk ho⟩
      have hgw := hwF E5 w8 (h1.trans hE5) hs8.drop.drop.drop.drop.drop.keep
      have hbw8 : Below w.heap.size w w8 := below_grown hgw (Nat.le_refl _)
      have hbW : Below w.heap.size W w8 := ⟨hgw.os.trans hb.os.symm, hgw.tape.trans hb.tape.symm, hgw.output.trans hb.output.symm, hsz8, fun k hk => (hbw8.block k hk).trans (hb.block k hk).symm⟩
      have hes := row_ents (es := es ++ [⟨.slice ak5 lk.length ck5, lk, id⟩]) hs8.p2 (by rw [entCells_append]; rfl) (by simp)
      have hfin := ((hes.p2.p3.drop.p3.drop).to (last_first _ _ _ _ _)).drop.le (Env.trim_le E5 w4.heap.size)
      simp only [List.setIfInBounds_toArray, List.set_cons_zero] at hfin
      have hWI : WalkI E w w4.heap.size (.slice atv 0 ctv) [] F (pre ++ [⟨⟨.slice ak lk.length ck, lk, id⟩, hvx, hlx⟩]) w8 :=
        ⟨E5.trim w4.heap.size, es ++ [⟨.slice ak5 lk.length ck5, lk, id⟩], .slice (some ⟨g6, 0, none⟩) (es.length + 1) c6, (h1.trans hE5).trim hEc, Env.trim_calm _ _, fun e he => by
          rcases List.mem_append.1 he with he | he
          · exact ((h3 e he).le hE5).trim
          · rw [List.mem_singleton.1 he]; exact hv5.trim, by simp only [kvs, List.map_append] at g4 ⊢; rw [g4]; rfl, fun x hx => by
          rcases List.mem_append.1 hx with hx | hx
          · exact g5 x hx
          · rw [List.mem_singleton.1 hx]; rfl, hfin, hbw8⟩
      clear hs8 hes hfin
      gi_wp2_with fail
      exact ⟨hkf, hbW, hWI⟩
    · have htl' : 0 < tl.length := List.length_pos_iff.2 htl
      obtain ⟨G, hr, hsG, hGX, hwG, hrest⟩ := hs.frame2
      gi_wp2_with fail
      refine ⟨trivial, (CallsIn.inRound lb (callsIn_wide.2 (rowCompare E' W G _ _ lk tl hsG hvx' hto'))).mono ?_⟩
      rintro e W1 ⟨_, rfl, rfl, hsG1⟩
      have hgr := hwG E' W1 (.refl E') hsG1
      by_cases hz : kcmp lk tl < 0
      · have hup : upto tl (⟨.slice ak lk.length ck, lk, id⟩ : Ent) = true := by simp [upto, hz]
        replace hup := Lib.hid hup
        have hs1 := (hsG1.mono hGX).keep
        have hb1 : Below w.heap.size w W1 := hb.trans (below_grown hgr hb.size)
        gi_wp2_with fail
        clear hsG hsG1 hGX hwG hrest
        obtain ⟨G, hr, hsG, hGX, hwG, hrest⟩ := hs1.frame2
        refine wpIn_draw_lit ?hq (by kernel_rfl) [(0,0),(1,0),(2,1),(3,1),(4,2),(5,2)] (sat E' · G) (by kernel_rfl) (by kernel_rfl) rfl hsG.drew ?_
        case hq => rintro ⟨a, w, h⟩; exact h.elim
        (refine wpD_reads _ rfl rfl rfl ?_; apply Exists.intro; refine ⟨fun w' hK => ?_, ?_, ?_⟩; (have hX := (hK.mono hGX).keep; have o1 := cell_of_block (off := 0) hX.p2.block; have o0 := hX.p2.lt; simp only [List.getElem?_toArray, List.getElem?_cons_zero] at o1; go_wp2; exact ⟨rfl, rfl, rfl⟩); rfl)
        (refine wpD_reads _ rfl rfl rfl ?_; apply Exists.intro; refine ⟨fun w' hK => ?_, ?_, ?_⟩; (have hX := (hK.mono hGX).keep; obtain ⟨b0, b1, b2, b3, b4⟩ := entFacts _ hX; go_wp2; exact ⟨rfl, rfl, rfl⟩); rfl)
        refine wpD_does (by decide) rfl rfl (fun Nx hNx w' hK => ?_)
        go_wp2_with fail
        refine (cloneEnt E' _ _ _ id lk hK hvx' hlx).mono ?_
        rintro e w5 ⟨_, rfl, k', E5, rfl, hE5, hs5, hv5⟩
        obtain ⟨ak5, ck5, rfl⟩ := hv5.slice
        go_wp2_with fail
        refine ⟨rfl, (fun x => sat E5 x _), hs5, fun _ x hx => hx.le hE5, hNx _ _ ?_⟩
        clear hs5 hK hNx
        refine wpD_does (by decide) rfl rfl (fun Nx hNx w' hK => ?_)
        go_wp2_with fail
        refine ⟨rfl, (fun x => sat E5 x _), hK.alloc (.cells #[.slice ak5 lk.length ck5, .int .i64 id] 35), fun _ x hx => hx.drop, hNx _ _ ?_⟩
        generalize w'.heap.size = b at *
        clear hK hNx
        refine wpD_does (by decide) rfl rfl (fun Nx hNx w' hK => ?_)
        have hX := hK.mono (sep_mono (fun _ h => h) hGX)
        have hX2 : sat E5 w' (ents (.slice av es.length cv) es * (pts b (.cells #[.slice ak5 lk.length ck5, .int .i64 id] 35 (0, 0)) * (pts (w.heap.size + 1) (.cells #[.slice av es.length cv] 29 (0, 0)) * (pts Bx (.cells #[.slice ak lk.length ck, .int .i64 id] 35 (0, 0)) * (pts w.heap.size (.cells #[.slice atv tl.length ctv] 23 (0, 0)) * (F * exact hr)))))) := hX.to (by ac_rfl)
        obtain ⟨i0, el⟩ := elEnt
        have hfy : firsts Try.prog w' 2 1 (.slice (some ⟨b, 0, none⟩) 1 1) [.slice ak5 lk.length ck5, .int .i64 id] := by
          refine firsts_some rfl fun j x hj => ?_
          rw [add_lit, cell_of_block hX2.p2.block]
          simpa using hj
        obtain ⟨v', w6, hr6, hs6, _, hsz6, _, _⟩ := append_row el 29 hX2 (some ⟨b, 0, none⟩) 1 1 _ rfl hfy (fun u hu => by simp at hu; rcases hu with rfl | rfl <;> rfl) (by unfold maxLen; omega) (by omega)
        obtain ⟨g6, c6, rfl, _, _⟩ := row_some hs6 (by omega)
        go_wp2_with (at_builtin; refine Lib.wpList_append_run _ rfl _ _ _ _ rfl _ _ rfl rfl _ _ hr6 ?_)
        have hsz0 : W1.heap.size ≤ w6.heap.size := Nat.le_trans (hwG E5 w' hE5 hK.drop).size hsz6
        refine ⟨rfl, (fun x => sat E5 x _ ∧ W1.heap.size ≤ x.heap.size), ⟨hs6.p3, hsz0⟩, fun h => (by cases h), hNx _ _ ?_⟩
        clear hs6 hsz0 hsz6 hX hX2 hr6 hfy hK hNx
        refine wpD_does (by decide) rfl rfl (fun Nx hNx w' hK => ?_)
        obtain ⟨hK, hsz⟩ := hK
        have o0 := hK.lt
        have o1 := cell_of_block (off := 0) hK.block
        have o2 := frozen_of_block (off := 0) hK.block
        simp only [List.getElem?_toArray, List.getElem?_cons_zero] at o1
        have hs7 := hK.setCell (off := 0) (.slice (some ⟨g6, 0, none⟩) (es.length + 1) c6)
        go_wp2_with fail
        refine ⟨rfl, (fun x => sat E5 x _ ∧ W1.heap.size ≤ x.heap.size), ⟨hs7, by simpa using hsz⟩, fun h => (by cases h), hNx _ _ ?_⟩
        clear hs7 hK hNx hsz o0 o1 o2
        refine wpD_nil (fun w8 hK => ?_)
        obtain ⟨hs8, hsz8⟩ := hK
        have hkf : KeepsFrom w4.heap.size W1 w8 := ⟨hsz8, fun k o hBk hk ho => hrest _ (Sep.Calm.pts.sep (Sep.Calm.pts.sep (calm_ents.sep (Sep.Calm.pts.sep (hcx.mono hB))))) h2 E5 w8 _ ((hs8.drop.drop.drop.drop.drop.to (sep_comm _ _)).to (sep_one _).symm |>.to (sep_assoc _ _ _)) k o hBk hk ho⟩
        have hgw := hwF E5 w8 (h1.trans hE5) hs8.drop.drop.drop.drop.drop.keep
        have hbw8 : Below w.heap.size w w8 := below_grown hgw (Nat.le_refl _)
        have hbW : Below w.heap.size W1 w8 := ⟨hgw.os.trans hb1.os.symm, hgw.tape.trans hb1.tape.symm, hgw.output.trans hb1.output.symm, hsz8, fun k hk => (hbw8.block k hk).trans (hb1.block k hk).symm⟩
        have hes := row_ents (es := es ++ [⟨.slice ak5 lk.length ck5, lk, id⟩]) hs8.p2 (by rw [entCells_append]; rfl) (by simp)
        have hfin := ((hes.p2.p3.drop.p3.drop).to (last_first _ _ _ _ _)).drop.le (Env.trim_le E5 w4.heap.size)
        simp only [List.setIfInBounds_toArray, List.set_cons_zero] at hfin
        have hWI : WalkI E w w4.heap.size (.slice atv tl.length ctv) tl F (pre ++ [⟨⟨.slice ak lk.length ck, lk, id⟩, hvx, hlx⟩]) w8 :=
          ⟨E5.trim w4.heap.size, es ++ [⟨.slice ak5 lk.length ck5, lk, id⟩], .slice (some ⟨g6, 0, none⟩) (es.length + 1) c6, (h1.trans hE5).trim hEc, Env.trim_calm _ _, fun e he => by
            rcases List.mem_append.1 he with he | he
            · exact ((h3 e he).le hE5).trim
            · rw [List.mem_singleton.1 he]; exact hv5.trim, by simp only [kvs, List.map_append] at g4 ⊢; rw [g4]; rfl, fun x hx => by
            rcases List.mem_append.1 hx with hx | hx
            · exact g5 x hx
            · rw [List.mem_singleton.1 hx]; exact hup.out, hfin, hbw8⟩
        clear hs8 hes hfin
        gi_wp2_with fail
        exact ⟨(KeepsFrom.of_grownBy hgr (fun j e => by cases e)).trans hkf, (below_grown hgr hb.size).trans hbW, hWI⟩
      · have hz' : 0 ≤ kcmp lk tl := by omega
        have hI1 := walkI_own (tl := tl) hB hcx pre W W1 none hI0 hgr (fun r e => by cases e)
        have hup : upto tl (⟨.slice ak lk.length ck, lk, id⟩ : Ent) = false := by
          have : tl.isEmpty = false := by cases tl with | nil => exact absurd rfl htl | cons => rfl
          simp [upto, this, hz']
        replace hup := Lib.hid hup
        gi_wp2_with fail
        exact ⟨KeepsFrom.of_grownBy hgr (fun j e => by cases e), rfl, pre, _, rfl, hup.out, hI1⟩

end Go.Proofs.Ytmibiaakppkmmaa
