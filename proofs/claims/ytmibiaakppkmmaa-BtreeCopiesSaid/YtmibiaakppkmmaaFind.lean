/- Find: the numbers of a key's entries. -/
import Derived.Test.YtmibiaakppkmmaaWalk
namespace Go.Sep
open Go.RowKit
set_option linter.unusedVariables false
set_option linter.unusedSimpArgs false

theorem rows_wide {P : Program} {n : Nat} {row : String} {args : Array Value} {w : World} {R : Value → World → Prop} (h : Rows P row args w R) : RowsIn Fence.wide n P row args w R := fun c cs _ => by
  obtain ⟨v, w', hR, hs⟩ := h c cs
  exact ⟨v, w', hR, stepsIn_wide.2 hs⟩

theorem upon_wide {P : Program} {n : Nat} {o : Oper} {a : Act} {next next' : Act → World → Prop} {Q : Exit → Act → World → Prop} (hn : ∀ a w, next a w → next' a w) : ∀ r, o.upon P a next Q r → o.uponIn Fence.wide n P a next' Q r
  | .ok (.value v) w', h => hn _ _ h
  | .ok .skip w', h => hn _ _ h
  | .ok (.defer d) w', h => hn _ _ h
  | .ok (.enter f args) w', h => ⟨(fun hx => by cases hx), callsIn_wide.2 (Calls.mono h fun e w'' x => by
      cases e with
      | returned v => exact hn _ _ x
      | panicked c => exact x
      | outgrown => exact x)⟩
  | .ok (.row row args) w', h => ⟨(fun hx => by cases hx), (rows_wide h).mono fun v w'' x => hn _ _ x⟩
  | .halt (.panic v) w', h => h

theorem ops_wide {P : Program} {n : Nat} {ops : Array Oper} {Q : Exit → Act → World → Prop} (hq : ¬ LetsOut Q) (hd : ∀ o ∈ ops, ∀ c, o.op ≠ .defer c) : ∀ (l : List Nat) (a : Act) (w : World), wpOps P ops Q l a w → wpOpsIn Fence.wide n P ops Q l a w
  | [], _, _, h => h
  | i :: rest, a, w, h => by
    unfold wpOps at h
    unfold wpOpsIn
    cases ho : ops[i]? with
    | none => rw [ho] at h; exact ops_wide hq hd rest a w h
    | some o =>
      rw [ho] at h
      simp only at h ⊢
      split
      · rename_i hw
        rw [if_pos hw] at h
        rcases h with h | h
        · refine ⟨fun _ _ => trivial, ?_⟩
          rw [Oper.semAt_plain _ _ _ (hd o (Array.mem_of_getElem? ho))]
          exact upon_wide (fun a w x => ops_wide hq hd rest a w x) _ h
        · exact absurd h.2 hq
      · rename_i hw
        rw [if_neg hw] at h
        exact ⟨fun _ _ => trivial, ops_wide hq hd rest _ _ h⟩

theorem wpIn_draw_wide {P : Program} {Q : Exit → Act → World → Prop} {n : Nat} {id : Nat} {l : List Oper} {a : Act} {w : World} (hq : ¬ LetsOut Q) (hd : l.all notDefer = true) (plan : List (Nat × Nat)) (K : World → Prop) (hm : P.follows .mixedOrders = true) (hB : drawOk l.toArray plan = true) (hk : plan.all (fun p => p.2 ≤ 3) = true)
    (hK : K { w with drawn := w.drawn + 1 }) (h : wpD P l.toArray Q plan K a) : (Code.region id l.toArray true).wpIn Fence.wide n P Q a w := by
  refine wpIn_region_draw fun t => ?_
  refine ops_wide hq (fun o ho c hc => ?_) _ _ _ ?_
  · have := List.all_eq_true.1 hd o (by simpa using ho)
    simp [notDefer, hc] at this
  · simp only [drawOk, Bool.and_eq_true, beq_iff_eq] at hB
    obtain ⟨⟨h1, h2⟩, h3⟩ := hB
    simp only [Region.schedule, hm, Bool.true_or, if_true]
    refine wpAny_sound _ t _ a _ ?_
    refine wpAnyE_sound (nf := nfOf plan) l.toArray.size _ K a _ hK ?_
    have hh := wpAnyE_plan h1 (fun p hp => by simpa using List.all_eq_true.1 hk p hp) plan _ K a (fun _ h => h) Closed.none h3 h
    rw [h2] at hh
    exact hh

/-- an append whose run is known, inside a fence -/
theorem wpListIn_append_run {F : Fence} {n : Nat} {P : Program} {w : World} {ops : Array Oper} {rest : List Oper} {o : Oper} {a : Act} {Q : Exit → Act → World → Prop} (hgd : o.guard = none) (s x : Operand) (t tn : TypeId)
    (ho : o.op = .call { callee := .builtin .append, args := #[s, x], argTypes := #[t, tn] }) (vs vx : Value) (hs : a.eval s = vs) (hx : a.eval x = vx)
    (v' : Value) (w' : World) (hr : (Builtin.append_ #[t, tn] o.type #[vs, vx]).run P w = .ok v' w') (h : wpListIn F n P ops Q rest (a.put o.dst v') w') : wpListIn F n P ops Q (o :: rest) a w := by
  refine wpListIn_plain hgd fun K hK' => ?_
  unfold Oper.wpIn
  refine ⟨?_, ?_⟩
  · simp [Oper.about, ho, resolve, Target.leads, Sem.run_pure]
  · rw [Oper.semAt_plain F _ _ (by rw [ho]; intro c hc'; cases hc')]
    simp [execOp, ho, resolve, invoke, builtin, hs, hx, hr, Result.andThen]
    exact hK' _ _ h

end Go.Sep
namespace Go.Proofs.Ytmibiaakppkmmaa
open Go.RowKit Go.Sep Go.Shelf
set_option linter.unusedVariables false
set_option linter.unusedSimpArgs false
attribute [local go_sem] Oper.semAt_some

/-- an owned slice of numbers -/
def nums (v : Value) (l : List Int) : Asn := row 3 1 v l.length (l.map (Value.int .i64))

theorem calm_nums {B : Nat} {v : Value} {l : List Int} : Sep.Calm B (nums v l) := Sep.Calm.row

theorem nums_slice {E : Env} {w : World} {A : Asn} {v : Value} {l : List Int} (h : sat E w (nums v l * A)) : ∃ a c, v = .slice a l.length c := by
  obtain ⟨_, ⟨rfl, h2, _⟩ | ⟨g, cap, cur, rfl, _⟩⟩ := Go.Sep.sat.row h
  · exact ⟨none, 0, by rw [h2]⟩
  · exact ⟨_, _, rfl⟩

/-- an owned slice of numbers becomes one that is read -/
theorem nums_freeze {E : Env} {w : World} {A : Asn} {v : Value} {l : List Int} (hn : l.length ≤ 1000000) (h : sat E w (nums v l * A)) : ∃ E', E.le E' ∧ sat E' w A ∧ Env.ints E' v l := by
  obtain ⟨hl, ⟨rfl, h2, hA⟩ | ⟨g, cap, cur, rfl, c1, c2, c3, c4, hp⟩⟩ := Go.Sep.sat.row h
  · have : l = [] := List.eq_nil_of_length_eq_zero h2
    subst this
    exact ⟨E, .refl E, hA, hn, none, 0, 0, 0, rfl, .inl ⟨rfl, Lib.hid rfl⟩, fun i hi => absurd hi (Nat.not_lt_zero _)⟩
  · have hle := Env.le_add (.cells cur 3 (0, 0)) hp.not_ro
    refine ⟨E.add g (.cells cur 3 (0, 0)), hle, hp.freeze, hn, some ⟨g, 0, none⟩, g, 0, cap, rfl, .inr rfl, fun i hi => ?_⟩
    rw [Nat.zero_add]
    have hj : (l.map (Value.int .i64))[i]? = some (.int .i64 l[i]) := by simp [hi]
    simp only [Env.cell?, Env.add, if_true]
    rw [← c4, List.getElem?_take] at hj
    split at hj
    · simpa using hj
    · cases hj

/-- one world, one slice: the same numbers -/
theorem nums_det {E E2 : Env} {W : World} {A A2 : Asn} {v : Value} {l l2 : List Int} (hs : sat E W (nums v l * A)) (hs2 : sat E2 W (nums v l2 * A2)) : l = l2 := by
  obtain ⟨_, ⟨rfl, h2, _⟩ | ⟨g, cap, cur, rfl, c1, c2, c3, c4, hp⟩⟩ := Go.Sep.sat.row hs
  · obtain ⟨_, ⟨_, h3, _⟩ | ⟨g, cap, cur, hv, _⟩⟩ := Go.Sep.sat.row hs2
    · rw [List.eq_nil_of_length_eq_zero h2, List.eq_nil_of_length_eq_zero h3]
    · cases hv
  · obtain ⟨_, ⟨hv, h3, _⟩ | ⟨g', cap', cur', hv, d1, d2, d3, d4, hp'⟩⟩ := Go.Sep.sat.row hs2
    · cases hv
    · injection hv with e1 e2 e3
      injection e1 with e1
      injection e1 with e1
      subst e1
      have := hp.block.symm.trans hp'.block
      injection this with this
      injection this with this
      subst this
      rw [← e2, c4] at d4
      have h5 : (l.map (Value.int .i64)).map intOf = (l2.map (Value.int .i64)).map intOf := by rw [d4]
      simpa [List.map_map, Function.comp_def, intOf] using h5

/-- between two rounds -/
def FindI (E : Env) (w : World) (B : Nat) (kv : Value) (lk : List Val) (F : Asn) (pre : List (GEnt E)) (W : World) : Prop :=
  ∃ E' v, E.le E' ∧ E'.calm B ∧ (∀ x ∈ pre, x.1.l = lk) ∧
    sat E' W (pts (w.heap.size + 1) (.cells #[v] 32 (0, 0)) * (nums v (pre.map (·.1.id)) * (pts w.heap.size (.cells #[kv] 23 (0, 0)) * F))) ∧ Below w.heap.size w W

/-- behind the assignment to the loop's variable -/
def FindA (E : Env) (w : World) (B : Nat) (kv : Value) (F : Asn) (f : GEnt E → Nat → Act) (x : GEnt E) (a : Act) (W : World) : Prop :=
  ∃ Bx E' ns v, a = f x Bx ∧ E.le E' ∧ E'.calm B ∧
    sat E' W (pts Bx (.cells #[x.1.k, .int .i64 x.1.id] 35 (0, 0)) * (pts (w.heap.size + 1) (.cells #[v] 32 (0, 0)) * (nums v ns * (pts w.heap.size (.cells #[kv] 23 (0, 0)) * F))))

theorem findI_own {E : Env} {w : World} {B : Nat} {kv : Value} {lk : List Val} {F : Asn} (hB : w.heap.size ≤ B) (hc : Sep.Calm w.heap.size F) : OwnFrom B (FindI E w B kv lk F) := by
  rintro pre W W' row ⟨E', v, h1, h2, h5, hs, hb⟩ hg hr
  refine ⟨E', v, h1, h2, h5, hs.turned (Sep.Calm.pts.sep (calm_nums.sep (Sep.Calm.pts.sep (hc.mono hB)))) h2 hg hr, ?_⟩
  exact hb.trans ⟨hg.os, hg.tape, hg.output, hg.size, fun k hk => hg.block k (by have := hb.size; omega) (fun e => by have := (hr k e.symm).1; omega)⟩

theorem findA_own {E : Env} {w : World} {B : Nat} {kv : Value} {F : Asn} {f : GEnt E → Nat → Act} (hB : w.heap.size ≤ B) (hc : Sep.Calm w.heap.size F) (x : GEnt E) (a : Act) : OwnFrom B (fun (_ : Unit) W => FindA E w B kv F f x a W) := by
  rintro _ W W' row ⟨Bx, E', ns, v, ha, h1, h2, hs⟩ hg hr
  exact ⟨Bx, E', ns, v, ha, h1, h2, hs.turned (Sep.Calm.pts.sep (Sep.Calm.pts.sep (calm_nums.sep (Sep.Calm.pts.sep (hc.mono hB))))) h2 hg hr⟩

theorem findX_own {E : Env} {w : World} {B : Nat} {kv : Value} {lk : List Val} {F : Asn} (hB : w.heap.size ≤ B) (hc : Sep.Calm w.heap.size F) (c : Code) :
    OwnFrom B (fun (pre : List (GEnt E)) W => c = .exit 0 ∧ ∃ pre0 x, pre = pre0 ++ [x] ∧ x.1.l ≠ lk ∧ FindI E w B kv lk F pre0 W) := by
  rintro pre W W' row ⟨h1, pre0, x, h2, h3, h4⟩ hg hr
  exact ⟨h1, pre0, x, h2, h3, findI_own hB hc pre0 W W' row h4 hg hr⟩

/-- of this key -/
def ofKey (lk : List Val) (e : Ent) : Bool := decide (e.l = lk)

/-- what has been brought, at the return -/
theorem find_end {E : Env} {w W : World} {A : Asn} {B r h D : Nat} {l : List Ent} {kv : Value} {lk : List Val} {F : Asn} {pre : List (GEnt E)} {keep : Ent → Bool} (hg : Env.goods E l) (hso : sorted l) (ha : ∀ x, F x → (tree r h l * A * ex fun h => Sep.exact h) x) (hB : w.heap.size ≤ B) (hc : Sep.Calm w.heap.size F) (hn : l.length ≤ 100000)
    (hi : FindI E w B kv lk F pre W) (hp : pre.map (·.1) = (l.filter keep).takeWhile (ofKey lk)) (hD : B ≤ D) {o : Obj} (hK : W.heap[D]? = some o) (ho : o.isCells = false) (o' : Obj) :
    ∃ v, W.cell? ⟨w.heap.size + 1, 0, none⟩ = some v ∧ (∃ a n c, v = .slice a n c) ∧ w.heap.size + 1 < W.heap.size ∧ ∃ E', E.le E' ∧ Tree E' (W.putObj D o') A r h l ∧ Env.ints E' v (((l.filter keep).takeWhile (ofKey lk)).map (·.id)) := by
  have hi2 := (findI_own hB hc).putObj o' hi hD hK ho
  obtain ⟨_, v0, _, _, _, hs0, _⟩ := hi
  obtain ⟨E', v, h1, h2, h5, hs, hb⟩ := hi2
  have c0 := cell_of_block (off := 0) hs0.block
  have c1 := cell_of_block (off := 0) hs.block
  have hv : v0 = v := by
    have hne : w.heap.size + 1 ≠ D := by
      intro e
      have := hs0.block
      rw [e, hK] at this
      cases this
      cases ho
    have : (W.putObj D o').cell? ⟨w.heap.size + 1, 0, none⟩ = W.cell? ⟨w.heap.size + 1, 0, none⟩ := World.cell?_of_block (World.putObj_heap_other hne)
    rw [c0, c1] at this
    simpa using this.symm
  subst hv
  obtain ⟨a, c, hv⟩ := nums_slice hs.p2
  have hids : pre.map (·.1.id) = ((l.filter keep).takeWhile (ofKey lk)).map (·.id) := by rw [← hp, List.map_map]; rfl
  have hl : (pre.map (·.1.id)).length ≤ 1000000 := by
    rw [hids, List.length_map]
    have h6 := (List.takeWhile_sublist (l := l.filter keep) (ofKey lk)).length_le
    have h7 := List.length_filter_le keep l
    omega
  obtain ⟨E2, hE2, hs2, hints⟩ := nums_freeze hl hs.p2
  refine ⟨v0, by rw [c0]; rfl, ⟨a, _, c, hv⟩, hs0.lt, E2, h1.trans hE2, ⟨hg.le (h1.trans hE2), hso, ?_⟩, hids ▸ hints⟩
  exact (hs2.drop.drop.mono ha).keep

end Go.Proofs.Ytmibiaakppkmmaa
