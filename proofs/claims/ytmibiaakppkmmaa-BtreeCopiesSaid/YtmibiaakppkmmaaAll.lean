/- The walk of a tree as a function value. -/
import Derived.Test.YtmibiaakppkmmaaEach
namespace Go.Proofs.Ytmibiaakppkmmaa
open Go.RowKit Go.Sep Go.Shelf
set_option linter.unusedVariables false
set_option linter.unusedSimpArgs false
attribute [local go_sem] Oper.semAt_some

theorem yield_any {m : Nat} (m' : Nat) {P : Program} {l : Nat} {args : Array Value} {W : World} {R : Ending → World → Prop} (h : YieldAt Fence.wide m P l args W R) : YieldAt Fence.wide m' P l args W R := by
  obtain ⟨fn, tmps, assign, body, hy, hR⟩ := h
  exact ⟨fn, tmps, assign, body, hy, hR.1, fun c cs _ => hR.2 c cs (fun d h => by cases h)⟩

theorem allFn (n : Nat) (pv fr : Value) (w : World) (hp : pv.oneCell' = true) (hf : fr.oneCell' = true) :
    CallsIn Fence.wide n Try.prog 27 #[pv, fr] w fun e w' => e = .returned (.func (.func 40) #[] #[.pointer (some ⟨w.heap.size, 0, none⟩), .pointer (some ⟨w.heap.size + 1, 0, none⟩)]) ∧ w' = (w.alloc (.cells #[pv] 55)).alloc (.cells #[fr] 23) := by
  refine callsIn_of_wp Try.func27 rfl trivial ?_ rfl
  simp only [Try.ntmps27, List.size_toArray, List.length_cons, List.length_nil, Nat.reduceAdd, Nat.reduceSub, Array.replicate_succ, Array.replicate_zero, List.push_toArray, List.append_toArray, List.nil_append, List.cons_append]
  gi_wp2
  go_ret
  exact ⟨rfl, rfl⟩

set_option maxHeartbeats 1000000 in
theorem allStops (E : Env) (we w : World) (A : Asn) (n d p : Nat) (t : T d) (fr : Value) (keep : Ent → Bool) (hfr : From E fr keep) (ys : List (GEnt E)) (hs : sat E we (node d p t * A)) (hok : ok d t) (h7 : t.es.length ≤ 7) (hso : sorted (flat d t))
    (hg : Env.goods E (flat d t)) (hys : ys.map (·.1) = (flat d t).filter keep) (hw : Below we.heap.size we w) (B1 B2 : Nat) (l1 : B1 < w.heap.size) (l2 : B2 < w.heap.size) (c1 : w.cell? ⟨B1, 0, none⟩ = some (ptr p)) (c2 : w.cell? ⟨B2, 0, none⟩ = some fr) :
    SeqStopsK Fence.wide n Try.prog 40 #[.pointer (some ⟨B1, 0, none⟩), .pointer (some ⟨B2, 0, none⟩)] (fun x : GEnt E => #[x.1.val]) (Below we.heap.size) (fun xs => xs = ys) (fun pre => pre <+: ys) ys.length w := by
  intro l J Jx W hW hJ hJx hY h0
  have hdd : ∀ k : Nat, (Fence.wide.depth.isSome = true → 1 ≤ k) := fun k h => by cases h
  have hd1 := (hW.cell (p := ⟨B1, 0, none⟩) l1).trans c1
  have hd2 := (hW.cell (p := ⟨B2, 0, none⟩) l2).trans c2
  have hB : Below we.heap.size we W := hw.trans (hW.mono hw.size)
  have hp := each E we l ys.length J Jx hJ fr keep hfr (fun m pre x W hj _ hl => yield_any m (hY pre x W hj hl)) d (n - 1) A p t [] ys W hs hok h7 hso hg hB h0 hys (by simp)
  unfold ptr at hd1 hp
  refine callsIn_of_wp Try.func40 rfl trivial ?_ rfl
  simp only [Try.ntmps40, List.size_toArray, List.length_cons, List.length_nil, Nat.reduceAdd, Nat.reduceSub, Array.replicate_succ, Array.replicate_zero, List.push_toArray, List.append_toArray, List.nil_append, List.cons_append]
  gi_wp2_with fail
  refine ⟨trivial, hdd _, ?_⟩
  refine hp.mono ?_
  clear hp
  rintro e W1 (⟨rfl, hJ1, _⟩ | ⟨rfl, q, hq, hx⟩)
  · gi_wp2_with fail
    go_end0
    exact ⟨⟨_, rfl⟩, .inl ⟨_, rfl, by simpa using hJ1⟩⟩
  · gi_wp2_with fail
    go_end0
    exact ⟨⟨_, rfl⟩, .inr ⟨q, hq, by simpa using hx⟩⟩

/-- where there is no node: nothing comes -/
theorem noneStops (E : Env) (w : World) (n : Nat) (Kp : World → World → Prop) (B1 B2 : Nat) (l1 : B1 < w.heap.size) (c1 : w.cell? ⟨B1, 0, none⟩ = some (.pointer none)) :
    SeqStopsK Fence.wide n Try.prog 40 #[.pointer (some ⟨B1, 0, none⟩), .pointer (some ⟨B2, 0, none⟩)] (fun x : GEnt E => #[x.1.val]) Kp (fun xs => xs = []) (fun pre => pre <+: []) 0 w := by
  intro l J Jx W hW hJ hJx hY h0
  have hd1 := (hW.cell (p := ⟨B1, 0, none⟩) l1).trans c1
  refine callsIn_of_wp Try.func40 rfl trivial ?_ rfl
  simp only [Try.ntmps40, List.size_toArray, List.length_cons, List.length_nil, Nat.reduceAdd, Nat.reduceSub, Array.replicate_succ, Array.replicate_zero, List.push_toArray, List.append_toArray, List.nil_append, List.cons_append]
  gi_wp2_with fail
  go_end0
  first | exact h0 | exact ⟨⟨_, rfl⟩, .inl h0⟩ | exact ⟨⟨_, rfl⟩, .inl ⟨_, rfl, h0⟩⟩

end Go.Proofs.Ytmibiaakppkmmaa
