/- A region that draws its order, walked in one order: what only reads is met in every world of a class, what does more is met where all else waits for it. -/
import Derived.Orders
import Derived.Deep.Quiet
import Derived.StillTail
import Derived.WalkKit
namespace Go.Sep
set_option linter.unusedVariables false
set_option linter.unusedSimpArgs false
open Go

def QF : Exit → Act → World → Prop := fun _ _ _ => False

theorem qf_outs : ¬ LetsOut QF := fun ⟨_, _, h⟩ => h

section
variable {P : Program} {ops : Array Oper} {md : Region.Mode} {Q : Exit → Act → World → Prop}

theorem wp_of_qf {o : Oper} {a : Act} {w : World} {K : Act → World → Prop} (h : o.wp P a w K QF) : o.wp P a w K Q := by
  unfold Oper.wp at *
  generalize (execOp a.eval o).run P w = r at *
  cases r with
  | ok n w' =>
    cases n <;> simp only [Oper.upon] at h ⊢ <;> try exact h
    exact Calls.mono h fun e w'' he => by
      cases e with
      | returned v => exact he
      | panicked c => exact he.elim
      | outgrown => exact (qf_outs he).elim
  | halt x w' =>
    cases x <;> simp only [Oper.upon] at h ⊢
    exact h.elim

/-- In every world of the class the operation leaves v in its slot, and the world as it was. -/
def YieldsK (P : Program) (ops : Array Oper) (K : World → Prop) (o : Oper) (v : Value) (a : Act) : Prop :=
  (Region.wanted o (yielded ops a.tmps) = true ∧ ∀ w, K w → o.wp P a w (fun a' w' => a' = a.put o.dst v ∧ w' = w) QF) ∨
  (Region.wanted o (yielded ops a.tmps) = false ∧ v = undef)

theorem YieldsK.mono {K K' : World → Prop} {o : Oper} {v : Value} {a : Act} (h : YieldsK P ops K o v a) (hk : ∀ w, K' w → K w) : YieldsK P ops K' o v a :=
  h.imp (fun ⟨h1, h2⟩ => ⟨h1, fun w hw => h2 w (hk w hw)⟩) id

/-- the class in which an operation is met: its own, or, if it looks at no memory, all -/
def Kp (pure : Bool) (K : World → Prop) : World → Prop := fun w => pure = false → K w

theorem put_congr {a : Act} {d e : Option Tmp} {u v x : Value} (h : a.put d u = a.put d v) : (a.put e x).put d u = (a.put e x).put d v := by
  cases d with
  | none => rfl
  | some d =>
    rcases Nat.lt_or_ge d a.tmps.size with hd | hd
    · have : u = v := by
        have := congrArg (fun b : Act => b.tmps[d]?) h
        simpa [Act.put, hd] using this
      rw [this]
    · cases e with
      | none => exact h
      | some e =>
        have hs : ∀ y : Value, (a.tmps.setIfInBounds e x).setIfInBounds d y = a.tmps.setIfInBounds e x := fun y => Array.setIfInBounds_eq_of_size_le (by simpa using hd)
        simp only [Act.put, hs]

theorem put_defers_ne {a : Act} {d d' : Option Tmp} {u v : Value} {x : Deferred} (h : ({ a with defers := x :: a.defers } : Act).put d u = a.put d' v) : False := by
  have := congrArg (fun b : Act => b.defers.length) h
  cases d <;> cases d' <;> simp [Act.put] at this

theorem YieldsK.put {K : World → Prop} {oi oj : Oper} {v u : Value} {a : Act} (hap : oi.apart ops oj = true) (hsi : ∀ cs b, oi.op ≠ .select cs b)
    (h : YieldsK P ops K oi v a) : YieldsK P ops K oi v (a.put oj.dst u) := by
  obtain ⟨h1, h2, h3⟩ := Oper.apart_spec hap
  unfold YieldsK at *
  rw [wanted_put oi a oj.dst u h3]
  refine h.imp (fun ⟨hw, hy⟩ => ⟨hw, fun w hk => ?_⟩) id
  have := hy w hk
  unfold Oper.wp at *
  rw [execOp_put oi hsi a oj.dst u h3]
  generalize (execOp a.eval oi).run P w = r at *
  cases r with
  | ok n w' =>
    cases n <;> simp only [Oper.upon] at this ⊢
    case value x => exact ⟨put_congr this.1, this.2⟩
    case skip => exact ⟨put_congr this.1, this.2⟩
    case defer d => exact (put_defers_ne this.1).elim
    case enter f args =>
      refine Calls.mono this fun e w'' he => ?_
      cases e with
      | returned x => exact ⟨put_congr he.1, he.2⟩
      | panicked c => exact he.elim
      | outgrown => exact (qf_outs he).elim
    case row row args => exact Rows.mono this fun x w'' he => ⟨put_congr he.1, he.2⟩
  | halt x w' => cases x <;> simp only [Oper.upon] at this ⊢; exact this.elim

/-- One operation, from every world of a class: what it leaves is in a class. 'nf': behind it nothing that was read is asked any more. -/
def eStep (P : Program) (ops : Array Oper) (nf : Nat → Bool) (i : Nat) (next : (World → Prop) → Act → Prop) (K : World → Prop) (a : Act) : Prop :=
  match ops[i]? with
  | none => next K a
  | some o => if Region.wanted o (yielded ops a.tmps) then ∀ w, K w → o.wp P a w (fun a' w' => ∃ K', K' w' ∧ (nf i = false → ∀ x, K' x → K x) ∧ next K' a') QF
    else next K (a.put o.dst undef)

theorem eStep_mono {nf : Nat → Bool} {i : Nat} {next next' : (World → Prop) → Act → Prop} {K : World → Prop} {a : Act} (h : ∀ K a, next K a → next' K a)
    (hh : eStep P ops nf i next K a) : eStep P ops nf i next' K a := by
  unfold eStep at *
  split
  · rename_i ho; simp only [ho] at hh; exact h _ _ hh
  · rename_i o ho
    simp only [ho] at hh
    split
    · rename_i hw
      simp only [hw, if_true] at hh
      exact fun w hk => Oper.wp_mono (fun a' w' ⟨K', h1, h2, h3⟩ => ⟨K', h1, h2, h _ _ h3⟩) (hh w hk)
    · rename_i hw; simp only [hw] at hh; exact h _ _ hh

def wpAnyE (P : Program) (md : Region.Mode) (ops : Array Oper) (Q : Exit → Act → World → Prop) (nf : Nat → Bool) : Nat → Array Bool → (World → Prop) → Act → Prop
  | 0, listed, K, a => Region.ready md ops listed = [] ∧ ∀ w, K w → Q .normal a w
  | fuel + 1, listed, K, a =>
    (Region.ready md ops listed = [] → ∀ w, K w → Q .normal a w) ∧
    ∀ i ∈ Region.ready md ops listed, eStep P ops nf i (wpAnyE P md ops Q nf fuel (listed.setIfInBounds i true)) K a

theorem wpAnyE_sound {nf : Nat → Bool} : ∀ (fuel : Nat) (listed : Array Bool) (K : World → Prop) (a : Act) (w : World), K w → wpAnyE P md ops Q nf fuel listed K a → wpAny P md ops Q fuel listed a w
  | 0, _, _, _, w, hk, h => ⟨h.1, h.2 w hk⟩
  | fuel + 1, listed, K, a, w, hk, h => by
    refine ⟨fun h0 => h.1 h0 w hk, fun i hi => ?_⟩
    have h1 := h.2 i hi
    unfold eStep at h1
    unfold wpOp
    split
    · rename_i ho; simp only [ho] at h1; exact wpAnyE_sound fuel _ K a w hk h1
    · rename_i o ho
      simp only [ho] at h1
      split
      · rename_i hw
        simp only [hw, if_true] at h1
        exact .inl (wp_of_qf (Oper.wp_mono (fun a' w' ⟨K', k1, _, k3⟩ => wpAnyE_sound fuel _ K' a' w' k1 k3) (h1 w hk)))
      · rename_i hw
        simp only [hw] at h1
        exact wpAnyE_sound fuel _ K _ w hk h1

/-- j waits for i, through others or not -/
def later (md : Region.Mode) (ops : Array Oper) (i : Nat) : Nat → Nat → Bool
  | 0, _ => false
  | n + 1, j => match ops[j]? with
    | none => false
    | some o => o.after.any fun e => Region.binds md e && (e.on == i || later md ops i n e.on)

/-- what is listed has all that it waits for listed -/
def Closed (md : Region.Mode) (ops : Array Oper) (listed : Array Bool) : Prop :=
  ∀ j oj, ops[j]? = some oj → listed.getD j false = true → ∀ e ∈ oj.after, Region.binds md e = true → listed.getD e.on false = true

theorem Closed.none : Closed md ops (Array.replicate ops.size false) := by
  intro j oj hj hl
  rw [getD_replicate_false] at hl
  cases hl

theorem Closed.set {i : Nat} {listed : Array Bool} (inv : Closed md ops listed) (hi : i ∈ Region.ready md ops listed) : Closed md ops (listed.setIfInBounds i true) := by
  obtain ⟨_, oi, hoi, hall⟩ := mem_ready.1 hi
  intro j oj hj hl e he hb
  by_cases hij : i = j
  · subst hij
    have : oj = oi := Option.some.inj (hj.symm.trans hoi)
    subst this
    exact getD_set_true (hall e he hb)
  · rw [getD_set_ne false hij] at hl
    exact getD_set_true (inv j oj hj hl e he hb)

theorem later_listed {i : Nat} {listed : Array Bool} (inv : Closed md ops listed) : ∀ (n j : Nat), later md ops i n j = true → listed.getD j false = true → listed.getD i false = true := by
  intro n
  induction n with
  | zero => intro j h; cases h
  | succ n ih =>
    intro j h hl
    unfold later at h
    split at h
    · cases h
    · rename_i o ho
      obtain ⟨e, he, hb⟩ := Array.any_eq_true'.1 h
      simp only [Bool.and_eq_true, Bool.or_eq_true, beq_iff_eq] at hb
      have h1 := inv j o ho hl e he hb.1
      rcases hb.2 with h2 | h2
      · rw [h2] at h1; exact h1
      · exact ih _ h2 h1

theorem later_not_ready {i j : Nat} {listed : Array Bool} (inv : Closed md ops listed) (hun : listed.getD i true = false) {n : Nat} (h : later md ops i n j = true) :
    j ∉ Region.ready md ops listed := by
  intro hj
  obtain ⟨_, oj, hoj, hall⟩ := mem_ready.1 hj
  have hu := getD_both hun
  cases n with
  | zero => cases h
  | succ n =>
    unfold later at h
    rw [hoj] at h
    obtain ⟨e, he, hb⟩ := Array.any_eq_true'.1 h
    simp only [Bool.and_eq_true, Bool.or_eq_true, beq_iff_eq] at hb
    have h1 := hall e he hb.1
    rcases hb.2 with h2 | h2
    · rw [h2, hu] at h1; cases h1
    · have := later_listed inv n e.on h2 h1
      rw [hu] at this; cases this

theorem wpAnyE_first {nf : Nat → Bool} {i : Nat} {oi : Oper} {v : Value} (pure : Bool) (hi : ops[i]? = some oi) (hsel : ∀ (j : Nat) (o : Oper) cs b, ops[j]? = some o → o.op ≠ .select cs b) :
    ∀ (fuel : Nat) (listed : Array Bool) (K : World → Prop) (a : Act), Closed md ops listed →
      (∀ j oj, ops[j]? = some oj → j ≠ i → listed.getD j true = false → later md ops i ops.size j = true ∨ (oi.apart ops oj = true ∧ (pure = true ∨ nf j = false))) →
      i ∈ Region.ready md ops listed → YieldsK P ops (Kp pure K) oi v a →
      wpAnyE P md ops Q nf fuel (listed.setIfInBounds i true) K (a.put oi.dst v) → wpAnyE P md ops Q nf (fuel + 1) listed K a := by
  intro fuel
  have here : ∀ (fuel : Nat) (listed : Array Bool) (K : World → Prop) (a : Act), YieldsK P ops (Kp pure K) oi v a → wpAnyE P md ops Q nf fuel (listed.setIfInBounds i true) K (a.put oi.dst v) →
      eStep P ops nf i (wpAnyE P md ops Q nf fuel (listed.setIfInBounds i true)) K a := by
    intro fuel listed K a hy H
    unfold eStep
    simp only [hi]
    rcases hy with ⟨hw, hv⟩ | ⟨hw, rfl⟩
    · simp only [hw, if_true]
      intro w hk
      exact Oper.wp_mono (fun a' w' ⟨h1, h2⟩ => ⟨K, by rw [h2]; exact hk, fun _ _ h => h, by rw [h1]; exact H⟩) (hv w (fun _ => hk))
    · simp only [hw, Bool.false_eq_true, if_false]; exact H
  induction fuel with
  | zero =>
    intro listed K a inv hfree hr hy H
    refine ⟨fun h => (by rw [h] at hr; cases hr), fun j hj => ?_⟩
    by_cases hji : j = i
    · subst hji; exact here 0 listed K a hy H
    · have := ready_mono hj hji
      rw [H.1] at this
      cases this
  | succ fuel ih =>
    intro listed K a inv hfree hr hy H
    refine ⟨fun h => (by rw [h] at hr; cases hr), fun j hj => ?_⟩
    by_cases hji : j = i
    · subst hji; exact here (fuel + 1) listed K a hy H
    · have h1 := H.2 j (ready_mono hj hji)
      obtain ⟨hjun, oj, hoj, hall⟩ := mem_ready.1 hj
      have hun := (mem_ready.1 hr).1
      rcases hfree j oj hoj hji hjun with hl | ⟨hap, hnf⟩
      · exact absurd hj (later_not_ready inv hun hl)
      · obtain ⟨p1, p2, p3⟩ := Oper.apart_spec hap
        have sub : ∀ K' : World → Prop, (nf j = false → ∀ x, K' x → K x) → ∀ w, Kp pure K' w → Kp pure K w := fun K' k2 w h hp => k2 (hnf.resolve_left (by simp [hp])) w (h hp)
        have hfree' : ∀ k ok, ops[k]? = some ok → k ≠ i → (listed.setIfInBounds j true).getD k true = false → later md ops i ops.size k = true ∨ (oi.apart ops ok = true ∧ (pure = true ∨ nf k = false)) := fun k ok hk hki hun' => by
          refine hfree k ok hk hki ?_
          by_cases hjk : j = k
          · subst hjk; exact hjun
          · rw [getD_set_ne true hjk] at hun'; exact hun'
        have go : ∀ (K' : World → Prop) (a' : Act), YieldsK P ops (Kp pure K') oi v a' → wpAnyE P md ops Q nf fuel ((listed.setIfInBounds i true).setIfInBounds j true) K' (a'.put oi.dst v) →
            wpAnyE P md ops Q nf (fuel + 1) (listed.setIfInBounds j true) K' a' := fun K' a' hy' h' =>
          ih (listed.setIfInBounds j true) K' a' (inv.set hj) hfree' (ready_mono hr (Ne.symm hji)) hy' (by rw [Array.setIfInBounds_comm _ _ hji]; exact h')
        unfold eStep at h1 ⊢
        simp only [hoj] at h1 ⊢
        rw [wanted_put oj a oi.dst v p1] at h1
        split
        · rename_i hw
          simp only [hw, if_true] at h1
          intro w hk
          have h2 := h1 w hk
          unfold Oper.wp at *
          rw [execOp_put oj (fun cs b => hsel j oj cs b hoj) a oi.dst v p1] at h2
          generalize (execOp a.eval oj).run P w = r at *
          cases r with
          | ok n w' =>
            cases n <;> simp only [Oper.upon] at h2 ⊢
            case value u =>
              obtain ⟨K', k1, k2, k3⟩ := h2
              exact ⟨K', k1, k2, go K' _ ((hy.put hap (fun cs b => hsel i oi cs b hi)).mono (sub K' k2)) (by rw [← Act.put_comm a v u p2]; exact k3)⟩
            case skip =>
              obtain ⟨K', k1, k2, k3⟩ := h2
              exact ⟨K', k1, k2, go K' _ ((hy.put hap (fun cs b => hsel i oi cs b hi)).mono (sub K' k2)) (by rw [← Act.put_comm a v undef p2]; exact k3)⟩
            case defer d =>
              obtain ⟨K', k1, k2, k3⟩ := h2
              refine ⟨K', k1, k2, go K' _ ?_ (by rw [← Act.put_comm _ v undef p2, ← Act.put_defers]; exact k3)⟩
              have hy' : YieldsK P ops (Kp pure K') oi v { a with defers := d :: a.defers } := by
                have := hy.mono (sub K' k2)
                unfold YieldsK at *
                refine this.imp (fun ⟨hw, hy⟩ => ⟨hw, fun w hk => ?_⟩) id
                have := hy w hk
                unfold Oper.wp at *
                have e : ({ a with defers := d :: a.defers } : Act).eval = a.eval := by funext x; cases x <;> rfl
                rw [e]
                generalize (execOp a.eval oi).run P w = r at *
                cases r with
                | ok n w' =>
                  have pd : ∀ u, a.put oi.dst u = a.put oi.dst v → ({ a with defers := d :: a.defers } : Act).put oi.dst u = ({ a with defers := d :: a.defers } : Act).put oi.dst v := by
                    intro u h
                    have h' := congrArg (fun b : Act => ({ tmps := b.tmps, defers := d :: a.defers } : Act)) h
                    cases hd : oi.dst with
                    | none => rfl
                    | some t => rw [hd] at h'; exact h'
                  cases n <;> simp only [Oper.upon] at this ⊢
                  case value x => exact ⟨pd _ this.1, this.2⟩
                  case skip => exact ⟨pd _ this.1, this.2⟩
                  case defer x => exact (put_defers_ne this.1).elim
                  case enter f args =>
                    refine Calls.mono this fun e w'' he => ?_
                    cases e with
                    | returned x => exact ⟨pd _ he.1, he.2⟩
                    | panicked c => exact he.elim
                    | outgrown => exact (qf_outs he).elim
                  case row row args => exact Rows.mono this fun x w'' he => ⟨pd _ he.1, he.2⟩
                | halt x w' => cases x <;> simp only [Oper.upon] at this ⊢; exact this.elim
              exact hy'.put hap (fun cs b => hsel i oi cs b hi)
            case enter f args =>
              refine Calls.mono h2 fun e w'' he => ?_
              cases e with
              | returned u =>
                obtain ⟨K', k1, k2, k3⟩ := he
                exact ⟨K', k1, k2, go K' _ ((hy.put hap (fun cs b => hsel i oi cs b hi)).mono (sub K' k2)) (by rw [← Act.put_comm a v u p2]; exact k3)⟩
              | panicked c => exact he.elim
              | outgrown => exact (qf_outs he).elim
            case row row args =>
              refine Rows.mono h2 fun u w'' he => ?_
              obtain ⟨K', k1, k2, k3⟩ := he
              exact ⟨K', k1, k2, go K' _ ((hy.put hap (fun cs b => hsel i oi cs b hi)).mono (sub K' k2)) (by rw [← Act.put_comm a v u p2]; exact k3)⟩
          | halt x w' => cases x <;> simp only [Oper.upon] at h2 ⊢; exact h2.elim
        · rename_i hw
          simp only [hw] at h1
          exact go K _ (hy.put hap (fun cs b => hsel i oi cs b hi)) (by rw [← Act.put_comm a v undef p2]; exact h1)

/-- what is done with an operation: 3 it looks at no memory; 0 it only reads; 1 it does more, and what was read beside it stands; 2 it does more, and nothing that was read is asked any more -/
def nfOf (plan : List (Nat × Nat)) (i : Nat) : Bool := plan.any fun p => p.1 == i && p.2 == 2

def planOk (md : Region.Mode) (ops : Array Oper) (nf : Nat → Bool) : List (Nat × Nat) → Array Bool → Bool
  | [], listed => (Region.ready md ops listed).isEmpty
  | (i, k) :: l, listed => (Region.ready md ops listed).contains i &&
      (match ops[i]? with
       | none => false
       | some oi => (List.range ops.size).all fun j => j == i || listed.getD j true || later md ops i ops.size j ||
          ((k == 3 || k == 0 && !nf j) && match ops[j]? with
            | some oj => oi.apart ops oj
            | none => true)) && planOk md ops nf l (listed.setIfInBounds i true)

def drawOk (ops : Array Oper) (plan : List (Nat × Nat)) : Bool := Region.noSelect ops && plan.length == ops.size && planOk .any ops (nfOf plan) plan (Array.replicate ops.size false)

/-- an operation's walk has come to its end: this frame, this world -/
def Stay (a : Act) (w : World) : Exit → Act → World → Prop := fun e a1 w1 => e = .normal ∧ a1 = a ∧ w1 = w

/-- The walk of a plan. -/
def wpD (P : Program) (ops : Array Oper) (Q : Exit → Act → World → Prop) : List (Nat × Nat) → (World → Prop) → Act → Prop
  | [], K, a => ∀ w, K w → Q .normal a w
  | (i, k) :: l, K, a => ∃ o, ops[i]? = some o ∧
    if k = 0 ∨ k = 3 then ∃ v, YieldsK P ops (Kp (k == 3) K) o v a ∧ wpD P ops Q l K (a.put o.dst v)
    else if Region.wanted o (yielded ops a.tmps) then ∀ w, K w → o.wp P a w (fun a' w' => ∃ K', K' w' ∧ (k = 1 → ∀ x, K' x → K x) ∧ wpD P ops Q l K' a') QF
    else wpD P ops Q l K (a.put o.dst undef)

theorem nfOf_one {plan : List (Nat × Nat)} {i k : Nat} (hk : (i, k) ∈ plan) (hnf : nfOf plan i = false) : k ≠ 2 := by
  rintro rfl
  unfold nfOf at hnf
  rw [List.any_eq_false] at hnf
  have := hnf _ hk
  simp at this

theorem wpAnyE_plan {plan : List (Nat × Nat)} (hs : Region.noSelect ops = true) (hk : ∀ p ∈ plan, p.2 ≤ 3) : ∀ (l : List (Nat × Nat)) (listed : Array Bool) (K : World → Prop) (a : Act), (∀ p ∈ l, p ∈ plan) →
    Closed md ops listed → planOk md ops (nfOf plan) l listed = true → wpD P ops Q l K a → wpAnyE P md ops Q (nfOf plan) l.length listed K a
  | [], listed, K, a, _, _, hB, h => ⟨by simpa [planOk] using hB, h⟩
  | (i, k) :: l, listed, K, a, hin, inv, hB, h => by
    obtain ⟨o, ho, h⟩ := h
    simp only [planOk, Bool.and_eq_true, ho] at hB
    obtain ⟨⟨hr, hf⟩, hB'⟩ := hB
    have hr' : i ∈ Region.ready md ops listed := by simpa using hr
    have hmem := hin (i, k) (List.mem_cons_self ..)
    have hrest : ∀ p ∈ l, p ∈ plan := fun p hp => hin p (List.mem_cons_of_mem _ hp)
    have rest : ∀ K a, wpD P ops Q l K a → wpAnyE P md ops Q (nfOf plan) l.length (listed.setIfInBounds i true) K a := fun K a h => wpAnyE_plan hs hk l _ K a hrest (inv.set hr') hB' h
    have hall : ∀ j oj, ops[j]? = some oj → j ≠ i → listed.getD j true = false → later md ops i ops.size j = true ∨ ((k = 3 ∨ k = 0 ∧ nfOf plan j = false) ∧ o.apart ops oj = true) := by
      intro j oj hj hne hun
      have := List.all_eq_true.1 hf j (List.mem_range.2 (Array.getElem?_eq_some_iff.1 hj).1)
      simp only [hj, Bool.or_eq_true, Bool.and_eq_true, beq_iff_eq, hne, hun, Bool.false_eq_true, false_or, Bool.not_eq_true', or_self] at this
      exact this
    by_cases hk0 : k = 0 ∨ k = 3
    · simp only [hk0, if_true] at h
      obtain ⟨v, hy, h'⟩ := h
      exact wpAnyE_first (k == 3) ho (Region.noSelect_spec hs) l.length listed K a inv (fun j oj hj hne hun => (hall j oj hj hne hun).imp id fun ⟨h2, h3⟩ => ⟨h3, h2.imp (fun e => by simp [e]) fun e => e.2⟩) hr' hy (rest K _ h')
    · simp only [hk0, if_false] at h
      refine ⟨fun h0 => (by rw [h0] at hr'; cases hr'), fun j hj => ?_⟩
      by_cases hji : j = i
      · subst hji
        unfold eStep
        simp only [ho]
        split
        · rename_i hw
          simp only [hw, if_true] at h
          intro w hK
          refine Oper.wp_mono (fun a' w' ⟨K', k1, k2, k3⟩ => ⟨K', k1, fun hnf => k2 ?_, rest K' a' k3⟩) (h w hK)
          have := nfOf_one hmem hnf
          have := hk _ hmem
          simp only at this
          omega
        · rename_i hw
          simp only [hw] at h
          exact rest K _ h
      · obtain ⟨hjun, oj, hoj, _⟩ := mem_ready.1 hj
        rcases hall j oj hoj hji hjun with hl | ⟨h0, _⟩
        · exact absurd hj (later_not_ready inv (mem_ready.1 hr').1 hl)
        · exact absurd (h0.symm.imp (fun e => e.1) id) hk0

theorem wp_draw {id : Nat} {a : Act} {w : World} (plan : List (Nat × Nat)) (K : World → Prop) (hm : P.follows .mixedOrders = true) (hB : drawOk ops plan = true) (hk : plan.all (fun p => p.2 ≤ 3) = true)
    (hK : K { w with drawn := w.drawn + 1 }) (h : wpD P ops Q plan K a) : (Code.region id ops true).wp P Q a w := by
  simp only [drawOk, Bool.and_eq_true, beq_iff_eq] at hB
  obtain ⟨⟨h1, h2⟩, h3⟩ := hB
  refine wp_region_any hm (wpAnyE_sound (nf := nfOf plan) ops.size _ K a _ hK ?_)
  have hh := wpAnyE_plan h1 (fun p hp => by simpa using List.all_eq_true.1 hk p hp) plan _ K a (fun _ h => h) Closed.none h3 h
  rw [h2] at hh
  exact hh

theorem wp_draw_lit {id : Nat} {l : List Oper} {a : Act} {w : World} (plan : List (Nat × Nat)) (K : World → Prop) (hm : P.follows .mixedOrders = true) (hB : drawOk l.toArray plan = true) (hk : plan.all (fun p => p.2 ≤ 3) = true)
    (hK : K { w with drawn := w.drawn + 1 }) (h : wpD P l.toArray Q plan K a) : (Code.region id l.toArray true).wp P Q a w := wp_draw plan K hm hB hk hK h

/-- an operation's walk has come to its end: what is in the class then, and what follows -/
def Next (Nx : (World → Prop) → Act → Prop) (k : Nat) (K : World → Prop) : Exit → Act → World → Prop :=
  fun e a' w' => e = .normal ∧ ∃ K', K' w' ∧ (k = 1 → ∀ x, K' x → K x) ∧ Nx K' a'

/-- One operation, without its surroundings. -/
theorem wp_bare {dst : Option Tmp} {op : Op} {type : TypeId} {pos : String} {after : Array Edge} {guard : Option (Nat × Bool)} {a : Act} {w : World} {S : Exit → Act → World → Prop} (hS : ∀ e a w, S e a w → e = .normal)
    (h : wpList P #[] S [⟨dst, op, type, "", #[], none⟩] a w) : (⟨dst, op, type, pos, after, guard⟩ : Oper).wp P a w (fun a' w' => S .normal a' w') QF := by
  unfold wpList at h
  have hw : Region.wanted (⟨dst, op, type, "", #[], none⟩ : Oper) (yielded #[] a.tmps) = true := rfl
  rw [if_pos hw] at h
  rcases h with h1 | ⟨_, _, _, hx⟩
  · have e : (⟨dst, op, type, pos, after, guard⟩ : Oper).wp P a w (fun a' w' => S .normal a' w') QF = (⟨dst, op, type, "", #[], none⟩ : Oper).wp P a w (fun a' w' => S .normal a' w') QF := rfl
    rw [e]
    unfold Oper.wp at *
    generalize (execOp a.eval (⟨dst, op, type, "", #[], none⟩ : Oper)).run P w = r at *
    cases r with
    | ok n w' =>
      cases n <;> simp only [Oper.upon, wpList] at h1 ⊢
      case enter f args =>
        refine Calls.mono h1 fun e w'' he => ?_
        cases e with
        | returned u => exact he
        | panicked c => have := hS _ _ _ he; cases this
        | outgrown => obtain ⟨_, _, h⟩ := he; have := hS _ _ _ h; cases this
      all_goals exact h1
    | halt x w' =>
      cases x <;> simp only [Oper.upon] at h1 ⊢
      have := hS _ _ _ h1; cases this
  · have := hS _ _ _ hx; cases this

/-- an operation that only reads; the frame behind it is found by the walk -/
theorem wpD_reads {K : World → Prop} {i : Nat} {l : List (Nat × Nat)} {a : Act} {dst : Option Tmp} {op : Op} {type : TypeId} {pos : String} {after : Array Edge} {guard : Option (Nat × Bool)} (d : Nat)
    (ho : ops[i]? = some ⟨dst, op, type, pos, after, guard⟩) (hd : dst = some d) (hg : Region.wanted ⟨dst, op, type, pos, after, guard⟩ (yielded ops a.tmps) = true)
    (h : ∃ a' : Act, (∀ w, K w → wpList P #[] (Stay a' w) [⟨dst, op, type, "", #[], none⟩] a w) ∧ a' = a.put (some d) (a'.tmps.getD d undef) ∧ wpD P ops Q l K a') : wpD P ops Q ((i, 0) :: l) K a := by
  obtain ⟨a', h, hv, hn⟩ := h
  subst hd
  refine ⟨_, ho, ?_⟩
  simp only [true_or, if_true]
  refine ⟨a'.tmps.getD d undef, .inl ⟨hg, fun w hk => ?_⟩, by rw [← hv]; exact hn⟩
  refine Oper.wp_mono (fun a1 w1 hx => ?_) (wp_bare (S := Stay a' w) (fun _ _ _ h => h.1) (h w (hk rfl)))
  obtain ⟨_, h1, h2⟩ := hx
  exact ⟨by rw [h1]; exact hv, h2⟩

/-- an operation that looks at no memory -/
theorem wpD_pure {K : World → Prop} {i : Nat} {l : List (Nat × Nat)} {a : Act} {dst : Option Tmp} {op : Op} {type : TypeId} {pos : String} {after : Array Edge} {guard : Option (Nat × Bool)} (d : Nat)
    (ho : ops[i]? = some ⟨dst, op, type, pos, after, guard⟩) (hd : dst = some d) (hg : Region.wanted ⟨dst, op, type, pos, after, guard⟩ (yielded ops a.tmps) = true)
    (h : ∃ a' : Act, (∀ w, wpList P #[] (Stay a' w) [⟨dst, op, type, "", #[], none⟩] a w) ∧ a' = a.put (some d) (a'.tmps.getD d undef) ∧ wpD P ops Q l K a') : wpD P ops Q ((i, 3) :: l) K a := by
  obtain ⟨a', h, hv, hn⟩ := h
  subst hd
  refine ⟨_, ho, ?_⟩
  simp only [or_true, if_true]
  refine ⟨a'.tmps.getD d undef, .inl ⟨hg, fun w hk => ?_⟩, by rw [← hv]; exact hn⟩
  refine Oper.wp_mono (fun a1 w1 hx => ?_) (wp_bare (S := Stay a' w) (fun _ _ _ h => h.1) (h w))
  obtain ⟨_, h1, h2⟩ := hx
  exact ⟨by rw [h1]; exact hv, h2⟩

theorem wpD_move {K : World → Prop} {i : Nat} {l : List (Nat × Nat)} {a : Act} {o : Oper} {x : Operand} (ho : ops[i]? = some o) (hg : Region.wanted o (yielded ops a.tmps) = true) (hm : o.op = .move x ∨ o.op = .assign x)
    (hn : wpD P ops Q l K (a.put o.dst (a.eval x))) : wpD P ops Q ((i, 3) :: l) K a := by
  refine ⟨o, ho, ?_⟩
  simp only [or_true, if_true]
  refine ⟨a.eval x, .inl ⟨hg, fun w hk => ?_⟩, hn⟩
  rcases hm with hm | hm
  · exact BigFrame.wp_move x hm ⟨rfl, rfl⟩
  · exact BigFrame.wp_assign x hm ⟨rfl, rfl⟩

/-- an operation that is passed over -/
theorem wpD_skip {K : World → Prop} {i k : Nat} {l : List (Nat × Nat)} {a : Act} {o : Oper} (ho : ops[i]? = some o) (hg : Region.wanted o (yielded ops a.tmps) = false)
    (hn : wpD P ops Q l K (a.put o.dst undef)) : wpD P ops Q ((i, k) :: l) K a := by
  refine ⟨o, ho, ?_⟩
  by_cases hk : k = 0 ∨ k = 3
  · simp only [hk, if_true]; exact ⟨undef, .inr ⟨hg, rfl⟩, hn⟩
  · simp only [hk, if_false, hg, Bool.false_eq_true]; exact hn

/-- an operation that is passed over; the frame behind it is found by the walk -/
theorem wpD_pass {K : World → Prop} {i k : Nat} {l : List (Nat × Nat)} {a : Act} {dst : Option Tmp} {op : Op} {type : TypeId} {pos : String} {after : Array Edge} {guard : Option (Nat × Bool)}
    (ho : ops[i]? = some ⟨dst, op, type, pos, after, guard⟩) (hg : Region.wanted ⟨dst, op, type, pos, after, guard⟩ (yielded ops a.tmps) = false)
    (h : ∃ a' : Act, (∀ w, wpList P #[] (Stay a' w) [⟨dst, .move (.const undef), type, "", #[], none⟩] a w) ∧ a' = a.put dst undef ∧ wpD P ops Q l K a') : wpD P ops Q ((i, k) :: l) K a := by
  obtain ⟨a', _, rfl, hn⟩ := h
  exact wpD_skip ho hg hn

/-- an operation that does more -/
theorem wpD_does {K : World → Prop} {i k : Nat} {l : List (Nat × Nat)} {a : Act} {dst : Option Tmp} {op : Op} {type : TypeId} {pos : String} {after : Array Edge} {guard : Option (Nat × Bool)} (hk0 : ¬ (k = 0 ∨ k = 3))
    (ho : ops[i]? = some ⟨dst, op, type, pos, after, guard⟩) (hg : Region.wanted ⟨dst, op, type, pos, after, guard⟩ (yielded ops a.tmps) = true)
    (h : ∀ Nx : (World → Prop) → Act → Prop, (∀ K' a', wpD P ops Q l K' a' → Nx K' a') → ∀ w, K w → wpList P #[] (Next Nx k K) [⟨dst, op, type, "", #[], none⟩] a w) : wpD P ops Q ((i, k) :: l) K a := by
  refine ⟨_, ho, ?_⟩
  simp only [hk0, if_false, hg, if_true]
  intro w hk
  refine Oper.wp_mono (fun a1 w1 hx => hx.2) (wp_bare (S := Next (wpD P ops Q l) k K) (fun _ _ _ h => h.1) (h _ (fun _ _ h => h) w hk))

theorem wpD_nil {K : World → Prop} {a : Act} (h : ∀ w, K w → Q .normal a w) : wpD P ops Q [] K a := h

end
end Go.Sep
