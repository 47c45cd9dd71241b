/- A region that draws its order, within a round of a range over a function. -/
import Derived.RangeFuncCalls
import Derived.Test.YtmibiaakppkmmaaDraw
import Derived.Test.YtmibiaakppkmmaaAll
namespace Go.Sep
open Go.RowKit
set_option linter.unusedVariables false
set_option linter.unusedSimpArgs false

theorem rows_in {P : Program} {l0 n : Nat} {row : String} {args : Array Value} {w : World} {R : Value → World → Prop} (h : Rows P row args w R) : RowsIn (Fence.wide.inRound l0) n P row args w R := fun c cs _ => by
  obtain ⟨v, w', hR, hs⟩ := h c cs
  exact ⟨v, w', hR, stepsIn_wide.2 hs⟩

theorem upon_in {P : Program} {l0 n : Nat} {o : Oper} {a : Act} {next next' : Act → World → Prop} {Q : Exit → Act → World → Prop} (hn : ∀ a w, next a w → next' a w) : ∀ r, o.upon P a next Q r → o.uponIn (Fence.wide.inRound l0) n P a next' Q r
  | .ok (.value v) w', h => hn _ _ h
  | .ok .skip w', h => hn _ _ h
  | .ok (.defer d) w', h => hn _ _ h
  | .ok (.enter f args) w', h => ⟨(fun hx => by cases hx), CallsIn.inRound l0 (callsIn_wide.2 (Calls.mono h fun e w'' x => by
      cases e with
      | returned v => exact hn _ _ x
      | panicked c => exact x
      | outgrown => exact x))⟩
  | .ok (.row row args) w', h => ⟨(fun hx => by cases hx), (rows_in h).mono fun v w'' x => hn _ _ x⟩
  | .halt (.panic v) w', h => h

theorem ops_in {P : Program} {l0 n : Nat} {ops : Array Oper} {Q : Exit → Act → World → Prop} (hq : ¬ LetsOut Q) (hd : ∀ o ∈ ops, ∀ c, o.op ≠ .defer c) : ∀ (l : List Nat) (a : Act) (w : World), wpOps P ops Q l a w → wpOpsIn (Fence.wide.inRound l0) n P ops Q l a w
  | [], _, _, h => h
  | i :: rest, a, w, h => by
    unfold wpOps at h
    unfold wpOpsIn
    cases ho : ops[i]? with
    | none => rw [ho] at h; exact ops_in hq hd rest a w h
    | some o =>
      rw [ho] at h
      simp only at h ⊢
      split
      · rename_i hw
        rw [if_pos hw] at h
        rcases h with h | h
        · refine ⟨fun _ _ => trivial, ?_⟩
          rw [Oper.semAt_eq _ _ _ (hd o (Array.mem_of_getElem? ho))]
          exact upon_in (fun a w x => ops_in hq hd rest a w x) _ h
        · exact absurd h.2 hq
      · rename_i hw
        rw [if_neg hw] at h
        exact ⟨fun _ _ => trivial, ops_in hq hd rest _ _ h⟩

/-- whether an operation is a 'defer' -/
def notDefer (o : Oper) : Bool := match o.op with | .defer _ => false | _ => true

theorem wpIn_draw_lit {P : Program} {Q : Exit → Act → World → Prop} {l0 n : Nat} {id : Nat} {l : List Oper} {a : Act} {w : World} (hq : ¬ LetsOut Q) (hd : l.all notDefer = true) (plan : List (Nat × Nat)) (K : World → Prop) (hm : P.follows .mixedOrders = true) (hB : drawOk l.toArray plan = true) (hk : plan.all (fun p => p.2 ≤ 3) = true)
    (hK : K { w with drawn := w.drawn + 1 }) (h : wpD P l.toArray Q plan K a) : (Code.region id l.toArray true).wpIn (Fence.wide.inRound l0) n P Q a w := by
  refine wpIn_region_draw fun t => ?_
  refine ops_in hq (fun o ho c hc => ?_) _ _ _ ?_
  · have := List.all_eq_true.1 hd o (by simpa using ho)
    simp [notDefer, hc] at this
  · simp only [drawOk, Bool.and_eq_true, beq_iff_eq] at hB
    obtain ⟨⟨h1, h2⟩, h3⟩ := hB
    simp only [Region.schedule, hm, Bool.true_or, if_true]
    refine wpAny_sound _ t _ a _ ?_
    refine wpAnyE_sound (nf := nfOf plan) l.toArray.size _ K a _ hK ?_
    have hh := wpAnyE_plan h1 (fun p hp => by simpa using List.all_eq_true.1 hk p hp) plan _ K a (fun _ h => h) Closed.none h3 h
    rw [h2] at hh
    exact hh

end Go.Sep
