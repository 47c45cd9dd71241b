/- The walk of a tree's entries: the iterator. -/
import Derived.RangeFuncNested
import Derived.RangeFuncBound
import Derived.RangeFuncCalls
import Derived.RangeFuncLeaves
import Derived.Shelf.Abstract
import Derived.Shelf.RegionOpen
import Derived.OwnWalkIn
import Derived.TacticsInMore
import Derived.LoopNIn
import Derived.LoopIn
import Derived.Test.YtmibiaakppkmmaaMany
namespace Go.Proofs.Ytmibiaakppkmmaa
open Go.RowKit Go.Sep Go.Shelf
set_option linter.unusedVariables false
set_option linter.unusedSimpArgs false
attribute [local go_sem] Oper.semAt_some

/-- a world, all of which is only read -/
def EW (W : World) : Env := ⟨fun k => W.heap[k]?, W.os, W.tape, W.output⟩

theorem sat_EW (W : World) : sat (EW W) W 1 := ⟨fun _ _ h => h, rfl, rfl, rfl, fun _ => none, fun _ => rfl, fun _ _ h => by cases h⟩
theorem le_EW {E : Env} {W : World} {A : Asn} (h : sat E W A) : E.le (EW W) := ⟨fun k o e => h.ro k o e, h.os, h.tape, h.output⟩
theorem grown_EW {W W' : World} (h : sat (EW W) W' 1) : W.grownBy W' none := by
  refine ⟨h.os, h.tape, h.output, ?_, fun k hk _ => ?_⟩
  · by_cases h0 : W.heap.size = 0
    · omega
    · have := h.ro (W.heap.size - 1) W.heap[W.heap.size - 1] (by simp [EW])
      have := (Array.getElem?_eq_some_iff.1 this).1
      omega
  · have e : W.heap[k]? = some W.heap[k] := by simp [hk]
    rw [e]
    exact h.ro k _ e

theorem cell_EW {W : World} {b off : Nat} {v : Value} (h : W.cell? ⟨b, off, none⟩ = some v) : (EW W).cell? b off = some v := by
  unfold World.cell? at h
  unfold Env.cell? EW
  revert h
  simp only
  cases W.heap[b]? with
  | none => intro h; simp at h
  | some o => cases o <;> intro h <;> simp_all

theorem ents_EW {E : Env} {W : World} {A : Asn} {v : Value} {es : List Ent} (h : sat E W (ents v es * A)) (hg : Env.goods E es) (hn : es.length ≤ 1000000) : Env.ents (EW W) v es := by
  refine ⟨hn, hg.le (le_EW h), ?_⟩
  rcases sat.ents h with ⟨rfl, rfl, hA⟩ | ⟨g, cap, cur, rfl, c1, c2, c3, c4, hp⟩
  · exact ⟨none, 0, 0, 0, rfl, .inl ⟨rfl, Lib.hid rfl⟩, fun i hi => absurd hi (Nat.not_lt_zero _)⟩
  · refine ⟨some ⟨g, 0, none⟩, g, 0, cap, rfl, .inr rfl, fun i hi => ?_⟩
    obtain ⟨_, h1, h2, _⟩ := ent_cell hp.block c4 i hi
    rw [Nat.zero_add]
    exact ⟨cell_EW h1, cell_EW h2⟩

/-- an entry whose key is a key -/
abbrev GEnt (E : Env) := { e : Ent // E.vals e.k e.l ∧ e.l.length ≤ 1000000 }

/-- all of them -/
def everyone : Ent → Bool := fun _ => true
/-- whose key is not ahead of this one -/
def notAhead (l : List Val) : Ent → Bool := fun e => decide (¬ kcmp e.l l < 0)

/-- from which entry on -/
def From (E : Env) (fr : Value) (keep : Ent → Bool) : Prop :=
  fr = .slice none 0 0 ∧ keep = everyone ∨ ∃ a n c l, fr = .slice (some a) n c ∧ E.vals fr l ∧ keep = notAhead l

/-- how what comes of a node's entries is told -/
def Comes {E : Env} (J Jx : List (GEnt E) → World → Prop) (we : World) (pre ys : List (GEnt E)) : Ending → World → Prop := fun e W' =>
  (e = .returned (.bool true) ∧ J (pre ++ ys) W' ∧ Below we.heap.size we W') ∨ (e = .returned (.bool false) ∧ ∃ q, q <+: ys ∧ Jx (pre ++ q) W')

theorem below_grown {B : Nat} {W W' : World} (hg : W.grownBy W' none) (hB : B ≤ W.heap.size) : Below B W W' :=
  ⟨hg.os, hg.tape, hg.output, hg.size, fun k hk => hg.block k (by omega) (fun e => by cases e)⟩

theorem rises_tail {x : Int} {c : List Int} (h : rises (x :: c)) : rises c := fun i j a b hij ha hb => h (i + 1) (j + 1) a b (by omega) (by simpa using ha) (by simpa using hb)

theorem rises_head {x : Int} {c : List Int} (h : rises (x :: c)) (hx : ¬ x < 0) : ∀ y ∈ c, ¬ y < 0 := fun y hy hlt => by
  obtain ⟨j, hj, rfl⟩ := List.getElem_of_mem hy
  exact hx (h 0 (j + 1) x c[j] (by omega) (by simp) (by simp [hj]) hlt)

/-- what is not ahead stands from its place on -/
theorem filter_pos (f : Ent → Int) : ∀ (es : List Ent), rises (es.map f) → es.filter (fun e => decide (¬ f e < 0)) = es.drop (pos (es.map f))
  | [], _ => rfl
  | e :: es, h => by
    by_cases hx : f e < 0
    · have hp : pos ((e :: es).map f) = pos (es.map f) + 1 := by simp [pos, List.takeWhile, hx]
      rw [hp, List.drop_succ_cons, ← filter_pos f es (rises_tail h)]
      have hx' : ¬ 0 ≤ f e := by omega
      simp [hx']
    · have hp : pos ((e :: es).map f) = 0 := by simp [pos, List.takeWhile, hx]
      rw [hp, List.drop_zero, List.filter_eq_self]
      intro x hm
      rcases List.mem_cons.1 hm with rfl | hm
      · simpa using hx
      · simpa using rises_head h hx (f x) (List.mem_map_of_mem hm)

theorem map_cons_inv {E : Env} {rest : List (GEnt E)} {x0 : Ent} {r : List Ent} (h : rest.map (·.1) = x0 :: r) : ∃ x rest', rest = x :: rest' ∧ x.1 = x0 ∧ rest'.map (·.1) = r := by
  cases rest with
  | nil => cases h
  | cons x rest' =>
    rw [List.map_cons] at h
    injection h with h1 h2
    exact ⟨x, rest', rfl, h1, h2⟩

theorem rises_key {es : List Ent} (h : sorted es) (l : List Val) : rises (es.map fun x => kcmp x.l l) := by
  intro i j x y hij hx hy hlt
  simp only [List.getElem?_map, Option.map_eq_some_iff] at hx hy
  obtain ⟨a, ha, rfl⟩ := hx
  obtain ⟨b, hb, rfl⟩ := hy
  obtain ⟨hi, rfl⟩ := List.getElem?_eq_some_iff.1 ha
  obtain ⟨hj, rfl⟩ := List.getElem?_eq_some_iff.1 hb
  by_cases e1 : i = j
  · subst e1; exact hlt
  · have h1 : ecmp es[i].kv es[j].kv = -1 := List.pairwise_iff_getElem.1 h i j hi hj (by omega)
    have hb1 : kcmp es[j].l l = -1 := by rcases Cmp.key.tri es[j].l l with x | x | x <;> omega
    change (if kcmp es[i].l es[j].l = 0 then cmpI es[i].id es[j].id else kcmp es[i].l es[j].l) = -1 at h1
    by_cases h0 : kcmp es[i].l es[j].l = 0
    · rw [(Cmp.key.eq _ _).1 h0]; exact hlt
    · rw [if_neg h0] at h1
      have := Cmp.key.trans _ _ _ h1 hb1
      omega

theorem key_lt {x y : Ent} {l : List Val} (h : lt x y) (hy : kcmp y.l l < 0) : kcmp x.l l < 0 := by
  have hb1 : kcmp y.l l = -1 := by rcases Cmp.key.tri y.l l with h | h | h <;> omega
  unfold lt at h
  change (if kcmp x.l y.l = 0 then cmpI x.id y.id else kcmp x.l y.l) = -1 at h
  by_cases h0 : kcmp x.l y.l = 0
  · rw [(Cmp.key.eq _ _).1 h0]; exact hy
  · rw [if_neg h0] at h
    have := Cmp.key.trans _ _ _ h hb1
    omega

theorem heads_key {l : List Val} : ∀ (ka : List (List Ent)) (ea : List Ent), ka.length = ea.length → sorted (heads ka ea) → (∀ x ∈ ea, kcmp x.l l < 0) → ∀ x ∈ heads ka ea, kcmp x.l l < 0
  | [], [], _, _, _, x, hx => by simp [heads] at hx
  | k :: ka, a :: ea, h, hs, ha, x, hx => by
    simp only [heads] at hs hx
    obtain ⟨_, h2, h3⟩ := sorted_append.1 hs
    rcases List.mem_append.1 hx with hx | hx
    · exact key_lt (h3 x hx a (by simp)) (ha a (by simp))
    · rcases List.mem_cons.1 hx with rfl | hx
      · exact ha _ (by simp)
      · exact heads_key ka ea (by simpa using h) (sorted_cons.1 h2).2 (fun y hy => ha y (List.mem_cons_of_mem _ hy)) x hx

/-- what stands under a node from the k-th kid on -/
def fromKid {d : Nat} (es : List Ent) (ks : List (Nat × T d)) (k : Nat) : List Ent :=
  if h : k < ks.length then flat d ks[k].2 ++ tails (es.drop k) ((ks.drop (k + 1)).map fun k => flat d k.2) else []

theorem fromKid_end {d : Nat} {es : List Ent} {ks : List (Nat × T d)} {k : Nat} (h : ks.length ≤ k) : fromKid es ks k = [] := by
  unfold fromKid; rw [dif_neg (by omega)]

theorem fromKid_last {d : Nat} {es : List Ent} {ks : List (Nat × T d)} {k : Nat} (hk : k = es.length) (h : k < ks.length) : fromKid es ks k = flat d ks[k].2 ++ [] := by
  unfold fromKid; rw [dif_pos h, List.drop_eq_nil_of_le (show es.length ≤ k by omega)]; simp [tails]

theorem fromKid_step {d : Nat} {es : List Ent} {ks : List (Nat × T d)} {k : Nat} (hl : ks.length = es.length + 1) (hk : k < es.length) (h : k < ks.length) : fromKid es ks k = flat d ks[k].2 ++ es[k] :: fromKid es ks (k + 1) := by
  have h' : k + 1 < ks.length := by omega
  unfold fromKid
  rw [dif_pos h, dif_pos h', List.drop_eq_getElem_cons hk, List.drop_eq_getElem_cons h', List.map_cons]
  rfl

theorem flat_from {d : Nat} (es : List Ent) (ks : List (Nat × T d)) (k : Nat) (hl : ks.length = es.length + 1) (hk : k ≤ es.length) : flat (d + 1) (mk es ks) = heads ((ks.take k).map fun k => flat d k.2) (es.take k) ++ fromKid es ks k := by
  have h' : k < ks.length := by omega
  have h1 := flat_split (d := d) (ea := es.take k) (eb := es.drop k) (ka := ks.take k) (kb := ks.drop (k + 1)) (k := ks[k]) (by simp; omega)
  rw [List.take_append_drop, ← List.drop_eq_getElem_cons h', List.take_append_drop] at h1
  rw [h1]
  unfold fromKid
  rw [dif_pos h']

theorem nodes_at {d : Nat} (ks : List (Nat × T d)) (k : Nat) (h : k < ks.length) : nodes d ks = node d ks[k].1 ks[k].2 * (nodes d (ks.take k) * nodes d (ks.drop (k + 1))) := by
  conv => lhs; rw [← List.take_append_drop k ks, List.drop_eq_getElem_cons h]
  rw [show ks[k] :: ks.drop (k + 1) = (ks[k].1, ks[k].2) :: ks.drop (k + 1) from rfl, nodes_split]
  ac_rfl

theorem map_app_inv {E : Env} {rest : List (GEnt E)} {a b : List Ent} (h : rest.map (·.1) = a ++ b) : ∃ y1 y2, rest = y1 ++ y2 ∧ y1.map (·.1) = a ∧ y2.map (·.1) = b := by
  obtain ⟨y1, y2, e, h1, h2⟩ := List.map_eq_append_iff.1 h
  exact ⟨y1, y2, e, h1, h2⟩

theorem map_nil_inv {E : Env} {rest : List (GEnt E)} (h : rest.map (·.1) = []) : rest = [] := by
  cases rest with
  | nil => rfl
  | cons x r => cases h

theorem slice_ents {E : Env} {w : World} {A : Asn} {v : Value} {es : List Ent} (h : sat E w (ents v es * A)) : ∃ a c, v = .slice a es.length c := by
  rcases sat.ents h with ⟨rfl, rfl, _⟩ | ⟨g, cap, cur, rfl, _⟩
  · exact ⟨none, 0, rfl⟩
  · exact ⟨_, _, rfl⟩

def Keeps (keep : Ent → Bool) (es : List Ent) (i0 : Nat) : Prop := ∀ k (h : k < es.length), i0 ≤ k → keep es[k] = true

theorem take_pos (f : Ent → Int) : ∀ (es : List Ent) (y : Ent), y ∈ es.take (pos (es.map f)) → f y < 0
  | [], y, h => by simp at h
  | e :: es, y, h => by
    by_cases hx : f e < 0
    · have hp : pos ((e :: es).map f) = pos (es.map f) + 1 := by simp [pos, List.takeWhile, hx]
      rw [hp, List.take_succ_cons] at h
      rcases List.mem_cons.1 h with rfl | h
      · exact hx
      · exact take_pos f es y h
    · have hp : pos ((e :: es).map f) = 0 := by simp [pos, List.takeWhile, hx]
      rw [hp] at h
      simp at h

set_option maxRecDepth 100000 in
set_option maxHeartbeats 2000000 in
theorem each (E : Env) (we : World) (l N : Nat) (J Jx : List (GEnt E) → World → Prop) {B0 : Nat} (hJ : AbidesFrom B0 J) (fr : Value) (keep : Ent → Bool) (hfr : From E fr keep)
    (hY : ∀ m pre x W, J pre W → Below we.heap.size we W → pre.length < N → YieldAt Fence.wide m Try.prog l #[x.1.val] W fun e W' =>
      (e = .returned (.bool true) ∧ J (pre ++ [x]) W' ∧ Below we.heap.size W W') ∨ (e = .returned (.bool false) ∧ Jx (pre ++ [x]) W')) (d : Nat) :
    ∀ (n : Nat) (A : Asn) (p : Nat) (t : T d) (pre ys : List (GEnt E)) (W : World), sat E we (node d p t * A) → ok d t → t.es.length ≤ 7 → sorted (flat d t) → Env.goods E (flat d t) → Below we.heap.size we W → J pre W → ys.map (·.1) = (flat d t).filter keep → pre.length + ys.length ≤ N →
      CallsIn Fence.wide n Try.prog 41 #[ptr p, fr, .func (.yield l) #[] #[]] W (Comes J Jx we pre ys) := by
  induction d with
  | zero =>
    intro n A p t pre ys W hs hok h7 hso hg hB hJ0 hys hN
    obtain ⟨ve, vk, hs⟩ := sat_node.1 hs
    obtain ⟨rfl, _⟩ := sat_under_zero.1 hs.p3
    have hat : ∀ X, Below we.heap.size we X → sat E X _ := fun X hX => hs.below hX
    replace hat := Lib.hid hat
    replace hso : sorted t.es := hso
    replace hg : Env.goods E t.es := hg
    rw [flat_leaf] at hys
    have qn := fun (W : World) a n c => run_neq_slice_nil_any (P := Try.prog) W 62 55 a n c 0 0 Try.underlying62
    have qn2 := fun (W : World) a n c => run_neq_slice_nil_any (P := Try.prog) W 23 52 a n c 0 0 Try.underlying23
    clear hok hs
    generalize t.es = es at *
    unfold ptr
    have hdd : ∀ k : Nat, (Fence.wide.depth.isSome = true → 1 ≤ k) := fun k h => by cases h
    obtain ⟨p0, p1, p2, p3, p4⟩ := nd_cells (hat.out W hB)
    rcases hfr with ⟨rfl, rfl⟩ | ⟨a, nk, ck, lk, rfl, hv, rfl⟩
    · have hys2 : ys.map (·.1) = es.drop 0 := by rw [hys]; simp [everyone]
      clear hys
      replace hys2 := Lib.hid hys2
      refine callsIn_of_wp Try.func41 rfl trivial ?_ rfl
      simp only [Try.ntmps41, List.size_toArray, List.length_cons, List.length_nil, Nat.reduceAdd, Nat.reduceSub, Array.replicate_succ, Array.replicate_zero, List.push_toArray, List.append_toArray, List.nil_append, List.cons_append]
      gi_wp2_with fail
      clear p0 p1 p2 p3 p4
      gi_loopw [8] (fun i wr => ∃ (k : Nat) (done rest : List (GEnt E)), i = .int .i64 k ∧ k ≤ es.length + 1 ∧ ys = done ++ rest ∧ Hid (rest.map (·.1) = es.drop k) ∧ J (pre ++ done) wr ∧ Below we.heap.size we wr) (fun i wr => es.length + 2 - (intOf i).toNat)
      case atStart => exact ⟨0, [], ys, rfl, by omega, rfl, hys2, by simpa using hJ0, hB⟩
      case round =>
        clear hJ0 hB
        obtain ⟨k, done, rest, rfl, hk, hyr, hr, hJ1, hB⟩ := hrel
        replace hyr := Lib.hid hyr
        obtain ⟨p0, p1, p2, p3, p4⟩ := nd_cells (hat.out _ hB)
        obtain ⟨av, cv, hve⟩ := slice_ents (hat.out _ hB).p2
        subst hve
        by_cases hlt : k < es.length
        · obtain ⟨x, rest', rfl, hx, hr2⟩ := map_cons_inv (hr.out.trans (List.drop_eq_getElem_cons hlt))
          replace hr2 := Lib.hid hr2
          obtain ⟨fn, tmps, assign, body, hy, hR⟩ := hY (n - 1) (pre ++ done) x _ hJ1 hB (by have := congrArg List.length hyr.out; simp at this ⊢; omega)
          rw [hx] at hy
          replace hx := Lib.hid hx
          obtain ⟨gv, cv2, hav, _, _⟩ := row_some (hat.out _ hB).p2 (by omega)
          injection hav with e1 _ e3
          subst e1; subst e3
          obtain ⟨g0, g1, g2, g3, g4⟩ := ents_cell (hat.out _ hB).p2 k hlt
          dsimp only [Ent.val] at hy
          gi_wp2_with fail
          refine ⟨trivial, ?_⟩
          gi_wp2_with fail
          refine ⟨hdd _, ?_⟩
          refine hR.mono ?_
          rintro e W2 (⟨rfl, hJ2, hB2⟩ | ⟨rfl, hx2⟩)
          · clear hR hy g0 g1 g2 g3 g4 p0 p1 p2 p3 p4
            gi_wp2_with fail
            go_roundw
            case rel => exact ⟨k + 1, done ++ [x], rest', by go_num, by omega, by rw [hyr.out]; simp, hr2, by rw [← List.append_assoc]; exact hJ2, hB.trans hB2⟩
            case measure => simp [intOf]; omega
          · clear hR hy g0 g1 g2 g3 g4 p0 p1 p2 p3 p4
            gi_wp2_with fail
            go_ret
            exact .inr ⟨rfl, done ++ [x], by rw [hyr.out]; exact ⟨rest', by simp⟩, by rw [← List.append_assoc]; exact hx2⟩
        · have hr0 : rest = [] := map_nil_inv (hr.out.trans (List.drop_eq_nil_of_le (by omega)))
          subst hr0
          by_cases hke : k = es.length
          · subst hke
            gi_wp2_with fail
            refine ⟨trivial, ?_⟩
            gi_wp2_with fail
            all_goals
              refine ⟨fun _ h => (by cases h), ?_⟩
              gi_wp2_with fail
              go_roundw
              case rel => exact ⟨es.length + 1, done, [], by go_num, by omega, hyr.out, Lib.hid (List.drop_eq_nil_of_le (by omega)).symm, hJ1, hB⟩
              case measure => simp [intOf] <;> omega
          · have hke : k = es.length + 1 := by omega
            subst hke
            have hJ3 : J (pre ++ ys) wr := by rw [hyr.out, List.append_nil]; exact hJ1
            clear hJ1
            gi_wp2_with fail
            go_ret
            exact .inl ⟨rfl, hJ3, hB⟩
    · have hys2 : ys.map (·.1) = es.drop (pos (es.map fun e => kcmp e.l lk)) := by rw [hys]; exact filter_pos (fun e => kcmp e.l lk) _ (rises_key hso lk)
      have hpl := pos_le (es.map fun e => kcmp e.l lk)
      rw [List.length_map] at hpl
      clear hys
      replace hys2 := Lib.hid hys2
      refine callsIn_of_wp Try.func41 rfl trivial ?_ rfl
      simp only [Try.ntmps41, List.size_toArray, List.length_cons, List.length_nil, Nat.reduceAdd, Nat.reduceSub, Array.replicate_succ, Array.replicate_zero, List.push_toArray, List.append_toArray, List.nil_append, List.cons_append]
      gi_wp2_with fail
      refine ⟨trivial, hdd _, ?_⟩
      refine (callsIn_wide.2 (ksearchR (EW W) W 1 ve _ lk es (sat_EW W) (ents_EW (hat.out W hB).p2 hg (by omega)) (hv.le (le_EW (hat.out W hB))) (by omega) (rises_key hso lk))).mono ?_
      rintro e W1 ⟨_, rfl, rfl, hs1⟩
      have hgr := grown_EW hs1
      have hJ1 := hJ _ _ _ none hJ0 hgr (fun r e => by cases e)
      have hB1 := hB.trans (below_grown hgr hB.size)
      clear hJ0 hB hs1 hgr p0 p1 p2 p3 p4
      have hJ0 := hJ1
      have hB := hB1
      clear hJ1 hB1
      generalize hi0 : pos (es.map fun e => kcmp e.l lk) = i0 at *
      generalize found (es.map fun e => kcmp e.l lk) = fo at *
      replace hi0 := Lib.hid hi0
      gi_wp2_with fail
      gi_loopw [8] (fun i wr => ∃ (k : Nat) (done rest : List (GEnt E)), i = .int .i64 k ∧ k ≤ es.length + 1 ∧ ys = done ++ rest ∧ Hid (rest.map (·.1) = es.drop k) ∧ J (pre ++ done) wr ∧ Below we.heap.size we wr) (fun i wr => es.length + 2 - (intOf i).toNat)
      case atStart => exact ⟨i0, [], ys, rfl, by omega, rfl, hys2, by simpa using hJ0, hB⟩
      case round =>
        clear hJ0 hB
        obtain ⟨k, done, rest, rfl, hk, hyr, hr, hJ1, hB⟩ := hrel
        replace hyr := Lib.hid hyr
        obtain ⟨p0, p1, p2, p3, p4⟩ := nd_cells (hat.out _ hB)
        obtain ⟨av, cv, hve⟩ := slice_ents (hat.out _ hB).p2
        subst hve
        by_cases hlt : k < es.length
        · obtain ⟨x, rest', rfl, hx, hr2⟩ := map_cons_inv (hr.out.trans (List.drop_eq_getElem_cons hlt))
          replace hr2 := Lib.hid hr2
          obtain ⟨fn, tmps, assign, body, hy, hR⟩ := hY (n - 1) (pre ++ done) x _ hJ1 hB (by have := congrArg List.length hyr.out; simp at this ⊢; omega)
          rw [hx] at hy
          replace hx := Lib.hid hx
          obtain ⟨gv, cv2, hav, _, _⟩ := row_some (hat.out _ hB).p2 (by omega)
          injection hav with e1 _ e3
          subst e1; subst e3
          obtain ⟨g0, g1, g2, g3, g4⟩ := ents_cell (hat.out _ hB).p2 k hlt
          dsimp only [Ent.val] at hy
          gi_wp2_with fail
          refine ⟨trivial, ?_⟩
          gi_wp2_with fail
          refine ⟨hdd _, ?_⟩
          refine hR.mono ?_
          rintro e W2 (⟨rfl, hJ2, hB2⟩ | ⟨rfl, hx2⟩)
          · clear hR hy g0 g1 g2 g3 g4 p0 p1 p2 p3 p4
            gi_wp2_with fail
            go_roundw
            case rel => exact ⟨k + 1, done ++ [x], rest', by go_num, by omega, by rw [hyr.out]; simp, hr2, by rw [← List.append_assoc]; exact hJ2, hB.trans hB2⟩
            case measure => simp [intOf]; omega
          · clear hR hy g0 g1 g2 g3 g4 p0 p1 p2 p3 p4
            gi_wp2_with fail
            go_ret
            exact .inr ⟨rfl, done ++ [x], by rw [hyr.out]; exact ⟨rest', by simp⟩, by rw [← List.append_assoc]; exact hx2⟩
        · have hr0 : rest = [] := map_nil_inv (hr.out.trans (List.drop_eq_nil_of_le (by omega)))
          subst hr0
          by_cases hke : k = es.length
          · subst hke
            gi_wp2_with fail
            refine ⟨trivial, ?_⟩
            gi_wp2_with fail
            all_goals
              refine ⟨fun _ h => (by cases h), ?_⟩
              gi_wp2_with fail
              go_roundw
              case rel => exact ⟨es.length + 1, done, [], by go_num, by omega, hyr.out, Lib.hid (List.drop_eq_nil_of_le (by omega)).symm, hJ1, hB⟩
              case measure => simp [intOf] <;> omega
          · have hke : k = es.length + 1 := by omega
            subst hke
            have hJ3 : J (pre ++ ys) wr := by rw [hyr.out, List.append_nil]; exact hJ1
            clear hJ1
            gi_wp2_with fail
            go_ret
            exact .inl ⟨rfl, hJ3, hB⟩
  | succ d ih =>
    intro n A p t pre ys W hs hok h7 hso hg0 hB hJ0 hys hN
    replace hg := hg0
    clear hg0
    obtain ⟨ve, vk, hs⟩ := sat_node.1 hs
    have hs1 := (under_kids hs.p3).p4.p4
    clear hs
    obtain ⟨es, ks, rfl⟩ : ∃ es ks, t = mk es ks := ⟨t.es, t.ks, rfl⟩
    rw [mk_es] at h7
    have hsubs := es_sub (d + 1) (mk es ks) hok
    rw [mk_es] at hsubs
    change ok (d + 1) (mk es ks) at hok
    rw [ok_mk] at hok
    have hlk := Lib.hid hok.1
    have hge := goods_sub hg hsubs
    have hse := sorted_sub hso hsubs
    have hs2 : sat E we (nd p ve vk * (ents ve es * (kids vk (ks.map (·.1)) * (nodes d ks * A)))) := hs1
    clear hs1 hsubs
    obtain ⟨gk, ck, rfl, hck, _⟩ := row_some hs2.p3 (by simp [hok.1])
    generalize hN0 : (ks.map (·.1)).length = N0 at *
    rw [List.length_map] at hN0
    replace hN0 := Lib.hid hN0
    have hsub : Hid (∀ k (h : k < ks.length), (flat d ks[k].2).Sublist (flat (d + 1) (mk es ks))) := fun k h => by
      rw [flat_from es ks k hlk.out (by have := hlk.out; omega)]
      unfold fromKid
      rw [dif_pos h]
      exact (List.sublist_append_left _ _).trans (List.sublist_append_right _ _)
    have hat : ∀ X, Below we.heap.size we X → sat E X _ := fun X hX => hs2.below hX
    replace hat := Lib.hid hat
    have qn := fun (W : World) a n c => run_neq_slice_nil_any (P := Try.prog) W 62 55 a n c 0 0 Try.underlying62
    have qn2 := fun (W : World) a n c => run_neq_slice_nil_any (P := Try.prog) W 23 52 a n c 0 0 Try.underlying23
    clear hs2
    unfold ptr
    have hdd : ∀ k : Nat, (Fence.wide.depth.isSome = true → 1 ≤ k) := fun k h => by cases h
    obtain ⟨p0, p1, p2, p3, p4⟩ := nd_cells (hat.out W hB)
    rcases hfr with ⟨rfl, rfl⟩ | ⟨a, nk, ck', lk, rfl, hv, rfl⟩
    · have hys2 : ys.map (·.1) = (fromKid es ks 0).filter everyone := by rw [hys, flat_from es ks 0 hlk.out (Nat.zero_le _)]; simp [heads]
      clear hys
      replace hys2 := Lib.hid hys2
      have hkeep : Keeps everyone es 0 := fun _ _ _ => rfl
      refine callsIn_of_wp Try.func41 rfl trivial ?_ rfl
      simp only [Try.ntmps41, List.size_toArray, List.length_cons, List.length_nil, Nat.reduceAdd, Nat.reduceSub, Array.replicate_succ, Array.replicate_zero, List.push_toArray, List.append_toArray, List.nil_append, List.cons_append]
      gi_wp2_with fail
      clear p0 p1 p2 p3 p4
      gi_loopw [8] (fun i wr => ∃ (k : Nat) (done rest : List (GEnt E)), i = .int .i64 k ∧ k ≤ es.length + 1 ∧ Hid (0 ≤ k) ∧ ys = done ++ rest ∧ Hid (rest.map (·.1) = (fromKid es ks k).filter everyone) ∧ J (pre ++ done) wr ∧ Below we.heap.size we wr) (fun i wr => es.length + 2 - (intOf i).toNat)
      case atStart => exact ⟨0, [], ys, rfl, by omega, Nat.le_refl _, rfl, hys2, by simpa using hJ0, hB⟩
      case round =>
        clear hJ0 hB
        obtain ⟨k, done, rest, rfl, hk, hik, hyr, hr, hJ1, hB⟩ := hrel
        replace hyr := Lib.hid hyr
        obtain ⟨p0, p1, p2, p3, p4⟩ := nd_cells (hat.out _ hB)
        obtain ⟨av, cv, hve⟩ := slice_ents (hat.out _ hB).p2
        subst hve
        by_cases hle : k ≤ es.length
        · have hkk : k < ks.length := by have := hlk.out; omega
          have c0 := kids_cell (hat.out _ hB).p3 k (by simpa using hkk)
          rw [List.getElem_map] at c0
          unfold ptr at c0
          have hkid : sat E we (node d ks[k].1 ks[k].2 * _) := ((hat.out we (Below.refl _ _)).p4.to (by rw [nodes_at ks k hkk]; exact sep_assoc ..))
          have hbd := hok.2 ks[k] (List.getElem_mem hkk)
          have hsubk := hsub.out k hkk
          have hcl : k < N0 := by have := hN0.out; have := hlk.out; omega
          by_cases hlt : k < es.length
          · obtain ⟨gv, cv2, hav, _, _⟩ := row_some (hat.out _ hB).p2 (by omega)
            injection hav with e1 _ e3
            subst e1; subst e3
            have hst := fromKid_step hlk.out hlt hkk
            have hr' := hr.out
            rw [hst, List.filter_append, List.filter_cons, if_pos (hkeep k hlt hik.out)] at hr'
            obtain ⟨y1, y2, rfl, hy1, hy2⟩ := map_app_inv hr'
            obtain ⟨x, rest', rfl, hx, hr2⟩ := map_cons_inv hy2
            replace hr2 := Lib.hid hr2
            have hcall := ih (n - 1) _ ks[k].1 ks[k].2 (pre ++ done) y1 wr hkid hbd.2.2 hbd.2.1 (sorted_sub hso hsubk) (goods_sub hg hsubk) hB hJ1 hy1 (by have := congrArg List.length hyr.out; simp at this ⊢; omega)
            clear hst hr' hkid hr hy1 hy2
            unfold ptr at hcall
            gi_wp2_with fail
            refine ⟨trivial, hdd _, ?_⟩
            refine hcall.mono ?_
            rintro e W1 (⟨rfl, hJ2, hB2⟩ | ⟨rfl, q, hq, hx1⟩)
            · clear hcall c0 p0 p1 p2 p3 p4
              obtain ⟨p0, p1, p2, p3, p4⟩ := nd_cells (hat.out _ hB2)
              obtain ⟨g0, g1, g2, g3, g4⟩ := ents_cell (hat.out _ hB2).p2 k hlt
              obtain ⟨fn, tmps, assign, body, hy, hR⟩ := hY (n - 1) (pre ++ done ++ y1) x _ hJ2 hB2 (by have := congrArg List.length hyr.out; simp at this ⊢; omega)
              rw [hx] at hy
              replace hx := Lib.hid hx
              dsimp only [Ent.val] at hy
              gi_wp2_with fail
              refine ⟨hdd _, ?_⟩
              refine hR.mono ?_
              rintro e W2 (⟨rfl, hJ3, hB3⟩ | ⟨rfl, hx2⟩)
              · clear hR hy g0 g1 g2 g3 g4 p0 p1 p2 p3 p4
                gi_wp2_with fail
                go_roundw
                case rel => exact ⟨k + 1, done ++ y1 ++ [x], rest', by go_num, by omega, Lib.hid (Nat.le_succ_of_le hik.out), by rw [hyr.out]; simp, hr2, by simpa using hJ3, hB2.trans hB3⟩
                case measure => simp [intOf]; omega
              · clear hR hy g0 g1 g2 g3 g4 p0 p1 p2 p3 p4
                gi_wp2_with fail
                go_ret
                exact .inr ⟨rfl, done ++ y1 ++ [x], by rw [hyr.out]; exact ⟨rest', by simp⟩, by simpa using hx2⟩
            · clear hcall c0 p0 p1 p2 p3 p4
              gi_wp2_with fail
              go_ret
              exact .inr ⟨rfl, done ++ q, by rw [hyr.out]; obtain ⟨q', rfl⟩ := hq; exact ⟨q' ++ x :: rest', by simp⟩, by simpa using hx1⟩
          · have hke : k = es.length := by omega
            subst hke
            have hst := fromKid_last rfl hkk
            have hr' := hr.out
            rw [hst, List.append_nil] at hr'
            have hcall := ih (n - 1) _ ks[es.length].1 ks[es.length].2 (pre ++ done) rest wr hkid hbd.2.2 hbd.2.1 (sorted_sub hso hsubk) (goods_sub hg hsubk) hB hJ1 hr' (by have := congrArg List.length hyr.out; simp at this ⊢; omega)
            clear hst hr' hkid hr
            unfold ptr at hcall
            gi_wp2_with fail
            refine ⟨trivial, hdd _, ?_⟩
            refine hcall.mono ?_
            rintro e W1 (⟨rfl, hJ2, hB2⟩ | ⟨rfl, q, hq, hx1⟩)
            · clear hcall c0 p0 p1 p2 p3 p4
              obtain ⟨p0, p1, p2, p3, p4⟩ := nd_cells (hat.out _ hB2)
              gi_wp2_with fail
              all_goals
                refine ⟨fun _ h => (by cases h), ?_⟩
                gi_wp2_with fail
                go_roundw
                case rel => exact ⟨es.length + 1, done ++ rest, [], by go_num, by omega, Lib.hid (Nat.le_succ_of_le hik.out), by rw [hyr.out]; simp, Lib.hid (by rw [fromKid_end (by have := hlk.out; omega)]; rfl), by simpa using hJ2, hB2⟩
                case measure => simp [intOf] <;> omega
            · clear hcall c0 p0 p1 p2 p3 p4
              gi_wp2_with fail
              go_ret
              exact .inr ⟨rfl, done ++ q, by rw [hyr.out]; obtain ⟨q', rfl⟩ := hq; exact ⟨q', by simp⟩, by simpa using hx1⟩
        · have hke : k = es.length + 1 := by omega
          subst hke
          have hr0 : rest = [] := map_nil_inv (hr.out.trans (by rw [fromKid_end (by have := hlk.out; omega)]; rfl))
          subst hr0
          have hJ3 : J (pre ++ ys) wr := by rw [hyr.out, List.append_nil]; exact hJ1
          clear hJ1
          gi_wp2_with fail
          go_ret
          exact .inl ⟨rfl, hJ3, hB⟩
    · have hpl := pos_le (es.map fun e => kcmp e.l lk)
      rw [List.length_map] at hpl
      have hfp : es.filter (notAhead lk) = es.drop (pos (es.map fun e => kcmp e.l lk)) := filter_pos (fun e => kcmp e.l lk) es (rises_key hse lk)
      have hkeep : Keeps (notAhead lk) es (pos (es.map fun e => kcmp e.l lk)) := fun k h hik => by
        have : es[k] ∈ es.drop (pos (es.map fun e => kcmp e.l lk)) := by
          rw [List.mem_drop_iff_getElem]
          exact ⟨k - pos (es.map fun e => kcmp e.l lk), by omega, by congr 1; omega⟩
        rw [← hfp] at this
        exact (List.mem_filter.1 this).2
      have hys2 : ys.map (·.1) = (fromKid es ks (pos (es.map fun e => kcmp e.l lk))).filter (notAhead lk) := by
        have hff := flat_from es ks _ hlk.out hpl
        rw [hys, hff, List.filter_append, List.filter_eq_nil_iff.2, List.nil_append]
        intro x hx
        rw [hff] at hso
        have := heads_key (l := lk) _ _ (by simp; have := hlk.out; omega) (sorted_append.1 hso).1 (fun y hy => by
          by_cases hc : kcmp y.l lk < 0
          · exact hc
          · exfalso
            have hy2 := take_pos _ _ y hy
            exact hc hy2) x hx
        have hna : notAhead lk x = false := by unfold notAhead; simpa using this
        simp [hna]
      clear hys hfp
      replace hys2 := Lib.hid hys2
      refine callsIn_of_wp Try.func41 rfl trivial ?_ rfl
      simp only [Try.ntmps41, List.size_toArray, List.length_cons, List.length_nil, Nat.reduceAdd, Nat.reduceSub, Array.replicate_succ, Array.replicate_zero, List.push_toArray, List.append_toArray, List.nil_append, List.cons_append]
      gi_wp2_with fail
      refine ⟨trivial, hdd _, ?_⟩
      refine (callsIn_wide.2 (ksearchR (EW W) W 1 ve _ lk es (sat_EW W) (ents_EW (hat.out W hB).p2 hge (by omega)) (hv.le (le_EW (hat.out W hB))) (by omega) (rises_key hse lk))).mono ?_
      rintro e W1 ⟨_, rfl, rfl, hs1⟩
      have hgr := grown_EW hs1
      have hJ1 := hJ _ _ _ none hJ0 hgr (fun r e => by cases e)
      have hB1 := hB.trans (below_grown hgr hB.size)
      clear hJ0 hB hs1 hgr p0 p1 p2 p3 p4
      have hJ0 := hJ1
      have hB := hB1
      clear hJ1 hB1
      generalize hi0 : pos (es.map fun e => kcmp e.l lk) = i0 at *
      generalize found (es.map fun e => kcmp e.l lk) = fo at *
      replace hi0 := Lib.hid hi0
      gi_wp2_with fail
      gi_loopw [8] (fun i wr => ∃ (k : Nat) (done rest : List (GEnt E)), i = .int .i64 k ∧ k ≤ es.length + 1 ∧ Hid (i0 ≤ k) ∧ ys = done ++ rest ∧ Hid (rest.map (·.1) = (fromKid es ks k).filter (notAhead lk)) ∧ J (pre ++ done) wr ∧ Below we.heap.size we wr) (fun i wr => es.length + 2 - (intOf i).toNat)
      case atStart => exact ⟨i0, [], ys, rfl, by omega, Nat.le_refl _, rfl, hys2, by simpa using hJ0, hB⟩
      case round =>
        clear hJ0 hB
        obtain ⟨k, done, rest, rfl, hk, hik, hyr, hr, hJ1, hB⟩ := hrel
        replace hyr := Lib.hid hyr
        obtain ⟨p0, p1, p2, p3, p4⟩ := nd_cells (hat.out _ hB)
        obtain ⟨av, cv, hve⟩ := slice_ents (hat.out _ hB).p2
        subst hve
        by_cases hle : k ≤ es.length
        · have hkk : k < ks.length := by have := hlk.out; omega
          have c0 := kids_cell (hat.out _ hB).p3 k (by simpa using hkk)
          rw [List.getElem_map] at c0
          unfold ptr at c0
          have hkid : sat E we (node d ks[k].1 ks[k].2 * _) := ((hat.out we (Below.refl _ _)).p4.to (by rw [nodes_at ks k hkk]; exact sep_assoc ..))
          have hbd := hok.2 ks[k] (List.getElem_mem hkk)
          have hsubk := hsub.out k hkk
          have hcl : k < N0 := by have := hN0.out; have := hlk.out; omega
          by_cases hlt : k < es.length
          · obtain ⟨gv, cv2, hav, _, _⟩ := row_some (hat.out _ hB).p2 (by omega)
            injection hav with e1 _ e3
            subst e1; subst e3
            have hst := fromKid_step hlk.out hlt hkk
            have hr' := hr.out
            rw [hst, List.filter_append, List.filter_cons, if_pos (hkeep k hlt hik.out)] at hr'
            obtain ⟨y1, y2, rfl, hy1, hy2⟩ := map_app_inv hr'
            obtain ⟨x, rest', rfl, hx, hr2⟩ := map_cons_inv hy2
            replace hr2 := Lib.hid hr2
            have hcall := ih (n - 1) _ ks[k].1 ks[k].2 (pre ++ done) y1 wr hkid hbd.2.2 hbd.2.1 (sorted_sub hso hsubk) (goods_sub hg hsubk) hB hJ1 hy1 (by have := congrArg List.length hyr.out; simp at this ⊢; omega)
            clear hst hr' hkid hr hy1 hy2
            unfold ptr at hcall
            gi_wp2_with fail
            refine ⟨trivial, hdd _, ?_⟩
            refine hcall.mono ?_
            rintro e W1 (⟨rfl, hJ2, hB2⟩ | ⟨rfl, q, hq, hx1⟩)
            · clear hcall c0 p0 p1 p2 p3 p4
              obtain ⟨p0, p1, p2, p3, p4⟩ := nd_cells (hat.out _ hB2)
              obtain ⟨g0, g1, g2, g3, g4⟩ := ents_cell (hat.out _ hB2).p2 k hlt
              obtain ⟨fn, tmps, assign, body, hy, hR⟩ := hY (n - 1) (pre ++ done ++ y1) x _ hJ2 hB2 (by have := congrArg List.length hyr.out; simp at this ⊢; omega)
              rw [hx] at hy
              replace hx := Lib.hid hx
              dsimp only [Ent.val] at hy
              gi_wp2_with fail
              refine ⟨hdd _, ?_⟩
              refine hR.mono ?_
              rintro e W2 (⟨rfl, hJ3, hB3⟩ | ⟨rfl, hx2⟩)
              · clear hR hy g0 g1 g2 g3 g4 p0 p1 p2 p3 p4
                gi_wp2_with fail
                go_roundw
                case rel => exact ⟨k + 1, done ++ y1 ++ [x], rest', by go_num, by omega, Lib.hid (Nat.le_succ_of_le hik.out), by rw [hyr.out]; simp, hr2, by simpa using hJ3, hB2.trans hB3⟩
                case measure => simp [intOf]; omega
              · clear hR hy g0 g1 g2 g3 g4 p0 p1 p2 p3 p4
                gi_wp2_with fail
                go_ret
                exact .inr ⟨rfl, done ++ y1 ++ [x], by rw [hyr.out]; exact ⟨rest', by simp⟩, by simpa using hx2⟩
            · clear hcall c0 p0 p1 p2 p3 p4
              gi_wp2_with fail
              go_ret
              exact .inr ⟨rfl, done ++ q, by rw [hyr.out]; obtain ⟨q', rfl⟩ := hq; exact ⟨q' ++ x :: rest', by simp⟩, by simpa using hx1⟩
          · have hke : k = es.length := by omega
            subst hke
            have hst := fromKid_last rfl hkk
            have hr' := hr.out
            rw [hst, List.append_nil] at hr'
            have hcall := ih (n - 1) _ ks[es.length].1 ks[es.length].2 (pre ++ done) rest wr hkid hbd.2.2 hbd.2.1 (sorted_sub hso hsubk) (goods_sub hg hsubk) hB hJ1 hr' (by have := congrArg List.length hyr.out; simp at this ⊢; omega)
            clear hst hr' hkid hr
            unfold ptr at hcall
            gi_wp2_with fail
            refine ⟨trivial, hdd _, ?_⟩
            refine hcall.mono ?_
            rintro e W1 (⟨rfl, hJ2, hB2⟩ | ⟨rfl, q, hq, hx1⟩)
            · clear hcall c0 p0 p1 p2 p3 p4
              obtain ⟨p0, p1, p2, p3, p4⟩ := nd_cells (hat.out _ hB2)
              gi_wp2_with fail
              all_goals
                refine ⟨fun _ h => (by cases h), ?_⟩
                gi_wp2_with fail
                go_roundw
                case rel => exact ⟨es.length + 1, done ++ rest, [], by go_num, by omega, Lib.hid (Nat.le_succ_of_le hik.out), by rw [hyr.out]; simp, Lib.hid (by rw [fromKid_end (by have := hlk.out; omega)]; rfl), by simpa using hJ2, hB2⟩
                case measure => simp [intOf] <;> omega
            · clear hcall c0 p0 p1 p2 p3 p4
              gi_wp2_with fail
              go_ret
              exact .inr ⟨rfl, done ++ q, by rw [hyr.out]; obtain ⟨q', rfl⟩ := hq; exact ⟨q', by simp⟩, by simpa using hx1⟩
        · have hke : k = es.length + 1 := by omega
          subst hke
          have hr0 : rest = [] := map_nil_inv (hr.out.trans (by rw [fromKid_end (by have := hlk.out; omega)]; rfl))
          subst hr0
          have hJ3 : J (pre ++ ys) wr := by rw [hyr.out, List.append_nil]; exact hJ1
          clear hJ1
          gi_wp2_with fail
          go_ret
          exact .inl ⟨rfl, hJ3, hB⟩

end Go.Proofs.Ytmibiaakppkmmaa
