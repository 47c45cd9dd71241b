/- What is read of the arguments, as what the walks want. -/
import Derived.Test.YtmibiaakppkmmaaParts
import Derived.ProofKit
import Derived.OpenShut
import Derived.ChangeOld
import Derived.Below
import Derived.Deep.Slices
import Derived.Lib.SmallJoins
import Derived.SizedLaws
namespace Go.Proofs.Ytmibiaakppkmmaa
open Go.RowKit Go.Sep Go.ChangeShapes Go.WideShapes Go.Deep Go.Joins
set_option linter.unusedVariables false
set_option linter.unusedSimpArgs false

theorem cells40 : Try.prog.cellsOf 40 = 4 := by kernel_rfl
theorem cells52 : Try.prog.cellsOf 52 = 4 := by kernel_rfl
theorem cells5 : Try.prog.cellsOf 5 = 1 := by kernel_rfl
theorem cells2 : Try.prog.cellsOf 2 = 1 := by kernel_rfl
theorem cells3 : Try.prog.cellsOf 3 = 1 := by kernel_rfl
theorem cells9 : Try.prog.cellsOf 9 = 1 := by kernel_rfl
theorem cells23 : Try.prog.cellsOf 23 = 1 := by kernel_rfl
theorem bytes52 : Try.prog.bytesOf 52 = 40 := by kernel_rfl
theorem bytes40 : Try.prog.bytesOf 40 = 64 := by kernel_rfl

theorem weightsAll_mem {H : Type} {P : Program} {e : TypeId} {d : DataW H} {n : Nat} (hn : n ∈ d.weights P e) : ∀ {l : List (DataW H)}, d ∈ l → n ∈ DataW.weightsAll P e l
  | a :: l, h => by
    simp only [DataW.weightsAll, List.mem_append]
    rcases List.mem_cons.1 h with rfl | h
    · exact .inl hn
    · exact .inr (weightsAll_mem hn h)

theorem reach_bound {n : Nat} (h : n ≤ reachBytes) : n ≤ 140737488355328 := Nat.le_trans h (by unfold reachBytes; decide)

theorem four {α : Type} : ∀ {l : List α}, l.length = 4 → ∃ a b c d, l = [a, b, c, d]
  | [a, b, c, d], _ => ⟨a, b, c, d, rfl⟩

instance : Inhabited Val := ⟨⟨0, 0, 0, []⟩⟩
instance : Inhabited Stp := ⟨⟨0, .bool false, [], .bool false, [], 0⟩⟩

theorem spot_of_add {w : World} {a : Addr} {v : Value} (h : w.cell? (a.add 0) = some v) : a = ⟨a.block, a.off, none⟩ := by
  have h1 : a.add 0 = a := by simp [Addr.add]
  rw [h1] at h
  have := World.cell?_spot h
  cases a
  simp_all

theorem spot_first {w : World} {a : Addr} {n : Nat} {cs : List Value} (hn : 0 < n) (h : w.cells? 0 (a.add (0 * n)) n = some cs) : a = ⟨a.block, a.off, none⟩ := by
  obtain ⟨_, hl, hc⟩ := World.cells?_some h
  have h0 := hc 0 hn
  rw [add_add, Nat.zero_mul] at h0
  cases cs with
  | nil => simp at hl; omega
  | cons c cs => exact spot_of_add h0

section
variable {H : Type} {enc : TypeId × Value → H}

/-- a slice of values that is read -/
theorem read_vals {w : World} {fuel : Nat} {v : Value} {x : DataW H × List MemPlace} (h : DataW.trod enc Try.prog w 0 (fun _ => true) true fuel 23 [v] = some x) (hz : ∀ n ∈ x.1.weights Try.prog 23, n ≤ reachBytes) :
    ∃ l, (EW w).vals v l ∧ fits l := by
  rcases open_slice Try.underlying23 h with ⟨hcs, rfl⟩ | ⟨a, len, cap, m, n, D, Pl, hcs, hb, hl, hm, hmm, rfl, hx⟩
  · simp only [List.cons.injEq, and_true] at hcs
    subst hcs
    exact ⟨[], ⟨by simp, none, 0, 0, 0, rfl, .inl (Lib.hid rfl), fun i hi => absurd hi (Nat.not_lt_zero _)⟩, fun x hx => by cases hx⟩
  · simp only [List.cons.injEq, and_true] at hcs
    subst hcs
    simp only [if_true] at hmm
    subst hmm
    have hlen : len ≤ 140737488355328 := by
      have := reach_bound (hz ((len + (m - len)) * 40) (by simp [DataW.weights, Try.underlying23, bytes52]))
      omega
    have key : ∀ i, i < len → ∃ u : Val, a = ⟨a.block, a.off, none⟩ ∧ (EW w).valAt a.block (a.off + i * 4) u ∧ u.t.length ≤ 140737488355328 := by
      intro i hi
      obtain ⟨cs, h1, h2⟩ := hx i (by omega)
      obtain ⟨y0, y1, y2, y3, n', hD, hlc, h3, h4, h5, h6⟩ := trod_struct4 Try.underlying52 h2
      rw [cells52] at h1 hlc
      obtain ⟨_, _, hc⟩ := World.cells?_some h1
      obtain ⟨c0, c1, c2, c3, rfl⟩ := four hlc
      obtain ⟨k, e0, rfl, _⟩ := DataW.trod_int Try.underlying5 h3
      obtain ⟨nn, e1, rfl, _⟩ := DataW.trod_int Try.underlying2 h4
      obtain ⟨hh, e2, rfl, _⟩ := DataW.trod_int Try.underlying2 h5
      obtain ⟨s, e3, rfl, _⟩ := DataW.trod_string Try.underlying9 h6
      simp [cells5, cells2, cells9] at e0 e1 e2 e3
      subst e0; subst e1; subst e2; subst e3
      have k0 := hc 0 (by omega)
      have k1 := hc 1 (by omega)
      have k2 := hc 2 (by omega)
      have k3 := hc 3 (by omega)
      rw [add_add] at k0 k1 k2 k3
      simp only [List.getElem?_cons_zero, List.getElem?_cons_succ] at k0 k1 k2 k3
      have hs : s.data.toList.length ≤ 140737488355328 := by
        have hD' : D i = .agg [.lit (.int .u8 k), .lit (.int .i64 nn), .lit (.int .i64 hh), .lit (.string s.data.toList)] := by
          have := congrArg Prod.fst hD
          simpa using this
        have hmem : s.data.toList.length ∈ (D i).weights Try.prog 52 := by
          rw [hD']
          simp [DataW.weights, Try.underlying52, DataW.weightsEach]
        exact reach_bound (hz s.data.toList.length (by
          simp only [DataW.weights, Try.underlying23, List.mem_cons, List.mem_append]
          exact .inr (.inl (weightsAll_mem hmem (List.mem_map.2 ⟨i, List.mem_range.2 hi, rfl⟩)))))
      have ha : a = ⟨a.block, a.off, none⟩ := by
        obtain ⟨cs', h1', _⟩ := hx 0 (by omega)
        exact spot_first (by rw [cells52]; decide) h1'
      refine ⟨⟨k, nn, hh, s.data.toList⟩, ha, ?_, hs⟩
      rw [ha, add_lit] at k0 k1 k2 k3
      refine ⟨cell_EW (by simpa using k0), cell_EW (by simpa [Nat.add_assoc] using k1), cell_EW (by simpa [Nat.add_assoc] using k2), cell_EW (by simpa [Nat.add_assoc] using k3)⟩
    obtain ⟨f, hf⟩ := choose_lt key
    refine ⟨(List.range len).map f, ⟨by simpa using hlen, some a, a.block, a.off, m, by simp, ?_, fun i hi => ?_⟩, fun u hu => ?_⟩
    · cases len with
      | zero => exact .inl (Lib.hid rfl)
      | succ len => exact .inr (congrArg some (hf 0 (by omega)).1)
    · have hi' : i < len := by simpa using hi
      simpa using (hf i hi').2.1
    · obtain ⟨i, hi, rfl⟩ := List.mem_map.1 hu
      exact (hf i (List.mem_range.1 hi)).2.2

/-- a slice of steps that is read -/
theorem read_steps {w : World} {fuel : Nat} {a : Option Addr} {ln cp : Nat} {x : DataW H × List MemPlace} (h : DataW.trod enc Try.prog w 0 (fun _ => true) true fuel 22 [.slice a ln cp] = some x) (hz : ∀ n ∈ x.1.weights Try.prog 22, n ≤ reachBytes) (hsp : ∀ b, a = some b → b.spot = none) :
    ∃ l, Env.steps (EW w) (.slice a ln cp) l ∧ fitsS l := by
  rcases open_slice Try.underlying22 h with ⟨hcs, rfl⟩ | ⟨a', len, cap, m, n, D, Pl, hcs, hb, hl, hm, hmm, rfl, hx⟩
  · simp only [List.cons.injEq, and_true] at hcs
    obtain ⟨rfl, rfl, rfl⟩ := by simpa using hcs
    exact ⟨[], ⟨by simp, fun s hs => (by cases hs), none, 0, 0, 0, rfl, .inl ⟨rfl, Lib.hid rfl⟩, fun i hi => absurd hi (Nat.not_lt_zero _)⟩, fun s hs => by cases hs⟩
  · obtain ⟨rfl, rfl, rfl⟩ := by simpa using hcs
    simp only [if_true] at hmm
    subst hmm
    have hlen : ln ≤ 140737488355328 := by
      have := reach_bound (hz ((ln + (m - ln)) * 64) (by simp [DataW.weights, Try.underlying22, bytes40]))
      omega
    have ha : a' = ⟨a'.block, a'.off, none⟩ := by
      have := hsp a' rfl
      cases a'
      simp_all
    have key : ∀ i, i < ln → ∃ s : Stp, s.ok (EW w) ∧ fits s.l ∧ fits s.l2 ∧ (EW w).cell? a'.block (a'.off + i * 4) = some (.int .u8 s.kind) ∧ (EW w).cell? a'.block (a'.off + i * 4 + 1) = some s.k ∧ (EW w).cell? a'.block (a'.off + i * 4 + 2) = some s.k2 ∧ (EW w).cell? a'.block (a'.off + i * 4 + 3) = some (.int .i64 s.id) := by
      intro i hi
      obtain ⟨cs, h1, h2⟩ := hx i (by omega)
      obtain ⟨y0, y1, y2, y3, n', hD, hlc, h3, h4, h5, h6⟩ := trod_struct4 Try.underlying40 h2
      rw [cells40] at h1 hlc
      obtain ⟨_, _, hc⟩ := World.cells?_some h1
      obtain ⟨c0, c1, c2, c3, rfl⟩ := four hlc
      obtain ⟨k, e0, rfl, _⟩ := DataW.trod_int Try.underlying5 h3
      obtain ⟨id, e3, rfl, _⟩ := DataW.trod_int Try.underlying3 h6
      simp [cells5, cells3] at e0 e3
      subst e0; subst e3
      simp [cells23] at h4 h5
      have k0 := hc 0 (by omega)
      have k1 := hc 1 (by omega)
      have k2 := hc 2 (by omega)
      have k3 := hc 3 (by omega)
      rw [add_add] at k0 k1 k2 k3
      simp only [List.getElem?_cons_zero, List.getElem?_cons_succ] at k0 k1 k2 k3
      have hD' : D i = .agg [.lit (.int .u8 k), y1.1, y2.1, .lit (.int .i64 id)] := by
        have := congrArg Prod.fst hD
        simpa using this
      have hw : ∀ n, n ∈ (D i).weights Try.prog 40 → n ≤ reachBytes := fun n hn => hz n (by
          simp only [DataW.weights, Try.underlying22, List.mem_cons, List.mem_append]
          exact .inr (.inl (weightsAll_mem hn (List.mem_map.2 ⟨i, List.mem_range.2 hi, rfl⟩))))
      obtain ⟨l1, hv1, hf1⟩ := read_vals h4 (fun n hn => hw n (by
        rw [hD']
        simp only [DataW.weights, Try.underlying40, DataW.weightsEach, List.map_cons, List.map_nil, List.mem_append]
        exact .inr (.inl hn)))
      obtain ⟨l2, hv2, hf2⟩ := read_vals h5 (fun n hn => hw n (by
        rw [hD']
        simp only [DataW.weights, Try.underlying40, DataW.weightsEach, List.map_cons, List.map_nil, List.mem_append]
        exact .inr (.inr (.inl hn))))
      rw [ha, add_lit] at k0 k1 k2 k3
      exact ⟨⟨k, c1, l1, c2, l2, id⟩, ⟨hv1, hv2⟩, hf1, hf2, cell_EW (by simpa using k0), cell_EW (by simpa [Nat.add_assoc] using k1), cell_EW (by simpa [Nat.add_assoc] using k2), cell_EW (by simpa [Nat.add_assoc] using k3)⟩
    obtain ⟨f, hf⟩ := choose_lt key
    refine ⟨(List.range ln).map f, ⟨by simpa using hlen, fun s hs => ?_, some a', a'.block, a'.off, m, by simp, .inr (congrArg some ha), fun i hi => ?_⟩, fun s hs => ?_⟩
    · obtain ⟨i, hi, rfl⟩ := List.mem_map.1 hs
      exact (hf i (List.mem_range.1 hi)).1
    · have hi' : i < ln := by simpa using hi
      simpa using (hf i hi').2.2.2
    · obtain ⟨i, hi, rfl⟩ := List.mem_map.1 hs
      have := hf i (List.mem_range.1 hi)
      exact ⟨this.2.1, this.2.2.1⟩

/-- a slice that is handed in has no spot -/
theorem spot_arg {P : Program} {w : World} {base : Nat} {t e : TypeId} {a : Option Addr} {ln cp : Nat} (ht : P.underlying t = some (.slice e)) (h : Value.okWide P w .any base t (.slice a ln cp)) : ∀ b, a = some b → b.spot = none := by
  rintro b rfl
  simp only [Value.okWide, ht, Cell.okWide, Cell.ok, World.has] at h
  exact h.2.2.2.1

/-- whoever keeps all that was there keeps what lies below -/
theorem below_EW {W W' : World} (h : sat (EW W) W' 1) : Below W.heap.size W W' := below_grown (grown_EW h) (Nat.le_refl _)

end
end Go.Proofs.Ytmibiaakppkmmaa
