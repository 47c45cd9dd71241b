/- For every list of steps and every list of numbers, covenantlaw07.BtreeRows returns true: put in whatever row, entries are the same; taken away in whatever row, none is left.
  Conditions: none beyond the form's own (each string, slice and map that is read fits into a machine's memory). -/
import Derived.Test.YtmibiaakppkmmaaRows
import Derived.Test.YtmibiaakppkmmaaOpen
import Derived.Test.YtmibiaakppkmmaaRows4
import Derived.WalkKit
import Derived.ProofKit
import Derived.OpenShut
import Derived.ShutString
import Derived.ChangeOld
import Derived.Below
namespace Go.Proofs.Ytmibiaakppkmmaa
open Go.ChangeShapes Go.WideShapes Go.ChangeAt Go.RowKit Go.Sep
set_option linter.unusedVariables false

theorem ownT4 : ownKnob Try.prog.godebug = none := by kernel_rfl
theorem laidOutT4 : laidOutB Try.prog = true := by kernel_rfl

theorem read_ints {H : Type} {enc : TypeId × Value → H} {w : World} {fuel : Nat} {a : Option Addr} {ln cp : Nat} {x : DataW H × List MemPlace} (h : DataW.trod enc Try.prog w 0 (fun _ => true) true fuel 32 [.slice a ln cp] = some x) (hsp : ∀ b, a = some b → b.spot = none) :
    ∃ ts, ln ≤ 1000 → Env.ints (EW w) (.slice a ln cp) ts := by
  rcases open_ints Try.underlying32 Try.underlying3 cells3 h with ⟨hcs, _⟩ | ⟨y, l, c, zs, hcs, _, hl, hm, hz, _, hcell, hwz⟩
  · obtain ⟨rfl, rfl, rfl⟩ := by simpa using hcs
    exact ⟨[], fun _ => ⟨by simp, none, 0, 0, 0, rfl, .inl ⟨rfl, Lib.hid rfl⟩, fun i hi => absurd hi (Nat.not_lt_zero _)⟩⟩
  · obtain ⟨rfl, rfl, rfl⟩ := by simpa using hcs
    have hz' : zs.length = cp := by simpa using hz
    have hlen : (zs.take ln).length = ln := by rw [List.length_take]; omega
    have hy : y = ⟨y.block, y.off, none⟩ := by have := hsp y rfl; cases y; simp_all
    refine ⟨zs.take ln, fun h1 => ⟨by omega, some y, y.block, y.off, cp, by rw [hlen], .inr (congrArg some hy), fun i hi => ?_⟩⟩
    have hi' : i < zs.length := by omega
    have hc := hcell i hi'
    rw [hy, add_lit] at hc
    have hg : zs.getD i 0 = (zs.take ln)[i] := by simp [List.getD, hi']
    rw [hg] at hc
    exact cell_EW hc

set_option maxRecDepth 100000 in
theorem rows_lifted (os : Os) (started : os.Started) (H : Type) (enc : TypeId × Value → H) :
    ReturnsInHanded {} Try.checked os 4 .any (Rows.btreeRowsSpec.pre6 enc Try.prog Try.f4 Rows.btreeRowsRow.domain false) (Rows.btreeRowsSpec.post enc Try.prog Try.f4 false true false false) := by
  refine returnsInHanded_of_change_sized (C := Try.checked) ownT4 started (by kernel_rfl) Try.func4
    (ChangeSpec.witness6 (enc := enc) (C := Try.checked) false ⟨#[], #[.slice none 0 0, .slice none 0 0], []⟩ 8 (by kernel_rfl) (by kernel_rfl) (by kernel_rfl) (by kernel_rfl)) ?_
  intro W base args ds gs before hval0 hW hcnd hsz _
  have hval : ∀ (j : Nat) t v, Try.f4.params[j]? = some t → args[j]? = some v → Value.okWide Try.prog W .any base t v := hval0
  have hW' := hW
  obtain ⟨p, q, hA0, hV, rfl, hfz, hnd⟩ := hW
  have hA : DataW.TrodAll enc Try.prog W 0 (fun _ => true) true Try.f4.params.toList args.toList ds p := hA0
  rw [Try.params4] at hA hval hsz
  obtain ⟨v0, vs0, d0, ds0, p0, q0, hargs, rfl, rfl, h0, r0⟩ := trodAll_cons hA
  obtain ⟨v1, vs1, d1, ds1, p1, q1, rfl, rfl, rfl, h1, r1⟩ := trodAll_cons r0
  obtain ⟨rfl, rfl, rfl⟩ := trodAll_nil r1
  obtain rfl : args = #[v0, v1] := by cases args; simp_all
  obtain ⟨rfl, rfl⟩ := trodVars_none hV
  have ok0 := hval 0 22 v0 rfl rfl
  have ok1 := hval 1 32 v1 rfl rfl
  obtain ⟨a0, len0, cap0, rfl⟩ := okWide_slice Try.underlying22 ok0
  obtain ⟨a1, len1, cap1, rfl⟩ := okWide_slice Try.underlying32 ok1
  have k0 := h0
  have lt0 : ∀ x ∈ p0, x.block < W.heap.size := by obtain ⟨m, hm⟩ := k0; exact DataW.trod_lt m _ _ _ hm
  have k1 := h1
  have lt1 : ∀ x ∈ p1, x.block < W.heap.size := by obtain ⟨m, hm⟩ := k1; exact DataW.trod_lt m _ _ _ hm
  have hz0 : ∀ n ∈ d0.weights Try.prog 22, n ≤ reachBytes := fun n hn => by
    have := List.all_eq_true.1 hsz n (DataW.weights_mem_each (j := 0) (t := 22) rfl rfl n hn)
    simpa using this
  obtain ⟨l, hl, hfl⟩ : ∃ l, Env.steps (EW W) (.slice a0 len0 cap0) l ∧ fitsS l := by
    obtain ⟨fuel, hf⟩ := h0
    exact read_steps hf hz0 (spot_arg Try.underlying22 ok0)
  obtain ⟨ts, ht⟩ : ∃ ts, len1 ≤ 1000 → Env.ints (EW W) (.slice a1 len1 cap1) ts := by
    obtain ⟨fuel, hf⟩ := h1
    exact read_ints hf (spot_arg Try.underlying32 ok1)
  clear hA0 hval0
  refine (rows (EW W) W 1 _ _ _ _ l ts (sat_EW W) hl hfl ht).mono ?_
  rintro e W' ⟨v, rfl, rfl, hs⟩
  have bel := below_EW hs
  exact ⟨_, rfl, _, _, _, [], _, [], hW', trodAll_mk1 (shut_bool Try.underlying4 _), (trodAll_cons_mk (Below.trod laidOutT4 (by kernel_rfl) (of_decide_eq_true (by kernel_rfl)) k0 bel lt0) (trodAll_cons_mk (Below.trod laidOutT4 (by kernel_rfl) (of_decide_eq_true (by kernel_rfl)) k1 bel lt1) trodAll_mk0)), rfl, bel.frame _, fun h => by cases h⟩

theorem BtreeRowsProved : Rows.BtreeRowsSaid :=
  OpenClaim.holds_of_wide 4 Try.f4 rfl rfl rfl rfl rfl rfl rfl ⟨rfl, rfl, rfl, rfl, rfl⟩ rfl rfl rfl rfl rfl (by kernel_rfl) Try.func4 (by kernel_rfl)
    (of_decide_eq_true (by kernel_rfl)) (by unfold Func.isWrapper; first | (rw [if_pos (by decide +kernel)]; kernel_rfl) | (rw [if_neg (by decide +kernel)]; exact ⟨rfl, rfl⟩))
    (fun os started H enc _ => rows_lifted os started H enc)
#print axioms BtreeRowsProved
end Go.Proofs.Ytmibiaakppkmmaa
