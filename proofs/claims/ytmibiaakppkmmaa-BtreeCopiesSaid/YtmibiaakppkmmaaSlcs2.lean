/- slices.Clone, Grow and Concat on owned slices of entries and of nodes. -/
import Derived.Test.YtmibiaakppkmmaaSlcs
namespace Go.Proofs.Ytmibiaakppkmmaa
open Go.RowKit Go.Sep
set_option linter.unusedVariables false
set_option linter.unusedSimpArgs false

/-- a part that is put together with others: how many elements, and which cells -/
def part {P : Program} (E : Env) (A : Asn) (sz : Nat) (s : Value × Nat × List Value) : Prop :=
  ∃ n a c, s.1 = .slice a n c ∧ s.2.1 = n ∧ s.2.2.length = n * sz ∧ (∀ u ∈ s.2.2, u.oneCell' = true) ∧ ∀ w', sat E w' A → firsts P w' sz n s.1 s.2.2
def total : List (Value × Nat × List Value) → Nat
  | [] => 0
  | s :: S => s.2.1 + total S
def joined : List (Value × Nat × List Value) → List Value
  | [] => []
  | s :: S => s.2.2 ++ joined S

theorem total_append (S T : List (Value × Nat × List Value)) : total (S ++ T) = total S + total T := by
  induction S with
  | nil => simp [total]
  | cons s S ih => simp [total, ih]; omega

theorem joined_append (S T : List (Value × Nat × List Value)) : joined (S ++ T) = joined S ++ joined T := by
  induction S with
  | nil => simp [joined]
  | cons s S ih => simp [joined, ih]

theorem take_step {α : Type} (S : List α) (k : Nat) (h : k < S.length) : S.take (k + 1) = S.take k ++ [S[k]] := by simp

theorem total_step (S : List (Value × Nat × List Value)) (k : Nat) (h : k < S.length) : total (S.take (k + 1)) = total (S.take k) + S[k].2.1 := by
  rw [take_step S k h, total_append]; simp [total]

theorem joined_step (S : List (Value × Nat × List Value)) (k : Nat) (h : k < S.length) : joined (S.take (k + 1)) = joined (S.take k) ++ S[k].2.2 := by
  rw [take_step S k h, joined_append]; simp [joined]

theorem total_le (S : List (Value × Nat × List Value)) (k : Nat) : total (S.take k) ≤ total S := by
  conv => rhs; rw [← List.take_append_drop k S, total_append]
  omega

set_option maxHeartbeats 1000000 in
/-- what is read, as a slice of one's own -/
theorem cloneRowEnt (E : Env) (w : World) (A : Asn) (a : Addr) (m c : Nat) (cs : List Value) (hs : sat E w A) (hl : cs.length = m * 2) (hf : firsts Try.prog w 2 m (.slice (some a) m c) cs) (h1 : ∀ u ∈ cs, u.oneCell' = true) (hm : m ≤ 100000) :
    Calls Try.prog 50 #[.slice (some a) m c] w (Ret fun v' w' => sat E w' (row 35 2 v' m cs * A)) := by
  obtain ⟨i, el⟩ := elEnt
  have q := fun (W : World) a n c => Lib.run_eql_slice_nil (P := Try.prog) W 29 35 a n c 0 0 Try.underlying29
  have hs1 := (hs.alloc (.cells #[] 35)).mk_new (sz := 2) (n := 0) rfl (Nat.zero_le _)
  obtain ⟨v', w', hr, hs2, _⟩ := append_row el 29 hs1 (some a) m c cs hl (hf.alloc _) h1 (by unfold maxLen; omega) (by omega)
  simp only [Nat.zero_add, List.nil_append] at hs2
  refine ret_hide fun R hR => ?_
  have hR' := hR.out _ _ hs2
  clear hs2 hs1 hf el hR
  go_enter Try.func50, Try.ntmps50
  go_wp2_with (at_builtin; refine Lib.wpList_append_run _ rfl _ _ _ _ rfl _ _ rfl rfl _ _ hr ?_)
  try go_ret
  exact hR'

set_option maxHeartbeats 1000000 in
set_option maxRecDepth 10000 in
/-- room for k elements -/
theorem growRowEnt (E : Env) (w : World) (A : Asn) (k : Nat) (hs : sat E w A) (hk : k ≤ 100000) :
    Calls Try.prog 79 #[.slice none 0 0, .int .i64 k] w (Ret fun v' w' => (k = 0 → v' = .slice none 0 0) ∧ sat E w' (row 35 2 v' 0 [] * A)) := by
  obtain ⟨i, el⟩ := elEnt
  refine ret_hide fun R hR => ?_
  by_cases h0 : k = 0
  · subst h0
    have hR' := hR.out _ _ ⟨fun _ => rfl, hs.mk_nil (e := 35) (sz := 2)⟩
    clear hR hk
    go_enter Try.func79, Try.ntmps79
    go_wp2
    try go_ret
    exact hR'
  · obtain ⟨cap', cur', w1, hr, d1, d2, d3, d4, hs1, _⟩ := append_zeros (P := Try.prog) (n := 0) (xs := []) (tn := 3) el Try.underlying3 29 hs none 0 firsts_zero (by simp) k (by omega) (by omega) (by unfold maxLen; omega) (by omega)
    simp only [Nat.zero_add] at hr
    have hs2 := hs1.mk_row (n := 0) (sz := 2) (xs := []) (cap := cap') (by simp) (by omega) d2 (by omega) (by simp)
    have hR' := hR.out _ _ ⟨fun h => absurd h h0, hs2⟩
    clear hR hs1 hs2 d4 el d1 d2 d3
    have hk0 : ¬ ((k : Int) < 0) := by omega
    have hk1 : (0 : Int) < k := by omega
    go_enter Try.func79, Try.ntmps79
    go_wp2_with (at_builtin; refine Lib.wpList_append_run _ rfl _ _ _ _ rfl _ _ rfl rfl _ _ hr ?_)
    try go_ret
    exact hR'

set_option maxHeartbeats 2000000 in
set_option maxRecDepth 10000 in
/-- slices, one behind the other -/
theorem concatEnt (E : Env) (w : World) (A : Asn) (B : Nat) (S : List (Value × Nat × List Value)) (hs : sat E w (pts B (.cells (S.map (·.1)).toArray 29 (0, 0)) * A)) (hS : ∀ j (h : j < S.length), part (P := Try.prog) E A 2 S[j])
    (hm : total S ≤ 100000) (hB : S.length ≤ 10) :
    Calls Try.prog 74 #[.slice (some ⟨B, 0, none⟩) S.length S.length] w (Ret fun v' w' => (total S = 0 → v' = .slice none 0 0) ∧ sat E w' (row 35 2 v' (total S) (joined S) * A)) := by
  obtain ⟨i, el⟩ := elEnt
  have el := Lib.hid el
  refine ret_hide fun R hR => ?_
  have hcell : ∀ w', sat E w' (pts B (.cells (S.map (·.1)).toArray 29 (0, 0)) * A) → ∀ j, (h : j < S.length) → w'.cell? ⟨B, j, none⟩ = some S[j].1 := by
    intro w' h j hj
    rw [cell_of_block h.block]
    simp [hj]
  have hS' := Lib.hid hS
  have hc' := Lib.hid hcell
  have hm' := Lib.hid hm
  clear hS hcell hm
  go_enter Try.func74, Try.ntmps74
  go_wp2
  go_loopw [3, 11] (fun s i wr => wr = w ∧ ∃ k : Nat, k ≤ S.length ∧ i = .int .i64 k ∧ s = .int .i64 (total (S.take k))) (fun _ i _ => S.length - (intOf i).toNat)
  case atStart => exact ⟨rfl, 0, Nat.zero_le _, rfl, rfl⟩
  case round =>
    obtain ⟨rfl, k, hk, rfl, rfl⟩ := hrel
    by_cases hlt : k < S.length
    · obtain ⟨n, a, c, hv, h1, h2, h3⟩ := hS'.out k hlt
      have hc := hc'.out _ hs k hlt
      rw [hv] at hc
      have ht := Lib.hid (total_step S k hlt)
      have hn : S[k].2.1 = n := h1
      have hm1 := total_le S (k + 1)
      have hm2 := hm'.out
      rw [total_step S k hlt, hn] at hm1
      have htk : total (S.take (k + 1)) = total (S.take k) + n := by rw [total_step S k hlt, hn]
      have htk := Lib.hid htk
      clear hn ht h1 h2 h3 hv
      generalize total (S.take k) = tk at *
      go_wp2
      go_roundw
      case rel => exact ⟨by first | trivial | rfl, k + 1, by omega, by go_num, by rw [htk.out]; go_num⟩
      case measure => simp [intOf]; omega
    · have : k = S.length := by omega
      subst this
      rw [List.take_length]
      have hm2 := hm'.out
      go_wp2_with fail
      refine (growRowEnt E _ _ _ hs hm2).mono ?_
      rintro e w1 ⟨v1, rfl, hv1, hs1⟩
      have hv1 := Lib.hid hv1
      clear hs
      go_wp2_with fail
      go_loopw [6, 27] (fun v i wr => ∃ k : Nat, k ≤ S.length ∧ i = .int .i64 k ∧ (total (S.take k) = 0 → total S = 0 → v = .slice none 0 0) ∧ sat E wr (row 35 2 v (total (S.take k)) (joined (S.take k)) * (pts B (.cells (S.map (·.1)).toArray 29 (0, 0)) * A))) (fun _ i _ => S.length - (intOf i).toNat)
      case atStart => exact ⟨0, Nat.zero_le _, rfl, fun _ h => hv1.out h, hs1⟩
      case round =>
        obtain ⟨k, hk, rfl, hnil, hs⟩ := hrel
        have hnil := Lib.hid hnil
        by_cases hlt : k < S.length
        · obtain ⟨n, a, c, hv, h1, h2, h4, h3⟩ := hS'.out k hlt
          have hc := hc'.out _ hs.drop k hlt
          have hm1 := total_le S (k + 1)
          have hf := h3 _ hs.drop.drop
          have ht := total_step S k hlt
          rw [hv] at hc hf
          have hn : S[k].2.1 = n := h1
          rw [hn] at ht
          obtain ⟨v', w', hr, hs2, _, _, hz, _⟩ := append_row el.out 29 hs a n c _ h2 hf h4 (by unfold maxLen; omega) (by omega)
          rw [← ht, ← joined_step S k hlt] at hs2
          have hn2 : Hid (total (S.take (k + 1)) = 0 → total S = 0 → v' = .slice none 0 0) := fun h0 h00 => by
            rw [(hz (by omega)).1]
            exact hnil.out (by omega) h00
          clear hnil hz hf h3 h4 h2 h1 hv hn ht hs hm1 hm2
          go_wp2_with (at_builtin; refine Lib.wpList_append_run _ rfl _ _ _ _ rfl _ _ rfl rfl _ _ hr ?_)
          go_roundw
          case rel => exact ⟨k + 1, by omega, by go_num, hn2.out, hs2⟩
          case measure => simp [intOf]; omega
        · have : k = S.length := by omega
          subst this
          rw [List.take_length] at hs hnil
          have hR' := hR.out _ _ ⟨fun h => hnil.out h h, (hs.to (sep_left_comm _ _ _)).drop⟩
          clear hs hR hnil
          go_wp2
          try go_ret
          exact hR'

set_option maxHeartbeats 1000000 in
/-- what is read, as a slice of one's own -/
theorem cloneRowNode (E : Env) (w : World) (A : Asn) (a : Addr) (m c : Nat) (cs : List Value) (hs : sat E w A) (hl : cs.length = m * 1) (hf : firsts Try.prog w 1 m (.slice (some a) m c) cs) (h1 : ∀ u ∈ cs, u.oneCell' = true) (hm : m ≤ 100000) :
    Calls Try.prog 51 #[.slice (some a) m c] w (Ret fun v' w' => sat E w' (row 55 1 v' m cs * A)) := by
  obtain ⟨i, el⟩ := elNode
  have q := fun (W : World) a n c => Lib.run_eql_slice_nil (P := Try.prog) W 62 55 a n c 0 0 Try.underlying62
  have hs1 := (hs.alloc (.cells #[] 55)).mk_new (sz := 1) (n := 0) rfl (Nat.zero_le _)
  obtain ⟨v', w', hr, hs2, _⟩ := append_row el 62 hs1 (some a) m c cs hl (hf.alloc _) h1 (by unfold maxLen; omega) (by omega)
  simp only [Nat.zero_add, List.nil_append] at hs2
  refine ret_hide fun R hR => ?_
  have hR' := hR.out _ _ hs2
  clear hs2 hs1 hf el hR
  go_enter Try.func51, Try.ntmps51
  go_wp2_with (at_builtin; refine Lib.wpList_append_run _ rfl _ _ _ _ rfl _ _ rfl rfl _ _ hr ?_)
  try go_ret
  exact hR'

set_option maxHeartbeats 1000000 in
set_option maxRecDepth 10000 in
/-- room for k elements -/
theorem growRowNode (E : Env) (w : World) (A : Asn) (k : Nat) (hs : sat E w A) (hk : k ≤ 100000) :
    Calls Try.prog 80 #[.slice none 0 0, .int .i64 k] w (Ret fun v' w' => (k = 0 → v' = .slice none 0 0) ∧ sat E w' (row 55 1 v' 0 [] * A)) := by
  obtain ⟨i, el⟩ := elNode
  refine ret_hide fun R hR => ?_
  by_cases h0 : k = 0
  · subst h0
    have hR' := hR.out _ _ ⟨fun _ => rfl, hs.mk_nil (e := 55) (sz := 1)⟩
    clear hR hk
    go_enter Try.func80, Try.ntmps80
    go_wp2
    try go_ret
    exact hR'
  · obtain ⟨cap', cur', w1, hr, d1, d2, d3, d4, hs1, _⟩ := append_zeros (P := Try.prog) (n := 0) (xs := []) (tn := 3) el Try.underlying3 62 hs none 0 firsts_zero (by simp) k (by omega) (by omega) (by unfold maxLen; omega) (by omega)
    simp only [Nat.zero_add] at hr
    have hs2 := hs1.mk_row (n := 0) (sz := 1) (xs := []) (cap := cap') (by simp) (by omega) d2 (by omega) (by simp)
    have hR' := hR.out _ _ ⟨fun h => absurd h h0, hs2⟩
    clear hR hs1 hs2 d4 el d1 d2 d3
    have hk0 : ¬ ((k : Int) < 0) := by omega
    have hk1 : (0 : Int) < k := by omega
    go_enter Try.func80, Try.ntmps80
    go_wp2_with (at_builtin; refine Lib.wpList_append_run _ rfl _ _ _ _ rfl _ _ rfl rfl _ _ hr ?_)
    try go_ret
    exact hR'

set_option maxHeartbeats 2000000 in
set_option maxRecDepth 10000 in
/-- slices, one behind the other -/
theorem concatNode (E : Env) (w : World) (A : Asn) (B : Nat) (S : List (Value × Nat × List Value)) (hs : sat E w (pts B (.cells (S.map (·.1)).toArray 62 (0, 0)) * A)) (hS : ∀ j (h : j < S.length), part (P := Try.prog) E A 1 S[j])
    (hm : total S ≤ 100000) (hB : S.length ≤ 10) :
    Calls Try.prog 75 #[.slice (some ⟨B, 0, none⟩) S.length S.length] w (Ret fun v' w' => (total S = 0 → v' = .slice none 0 0) ∧ sat E w' (row 55 1 v' (total S) (joined S) * A)) := by
  obtain ⟨i, el⟩ := elNode
  have el := Lib.hid el
  refine ret_hide fun R hR => ?_
  have hcell : ∀ w', sat E w' (pts B (.cells (S.map (·.1)).toArray 62 (0, 0)) * A) → ∀ j, (h : j < S.length) → w'.cell? ⟨B, j, none⟩ = some S[j].1 := by
    intro w' h j hj
    rw [cell_of_block h.block]
    simp [hj]
  have hS' := Lib.hid hS
  have hc' := Lib.hid hcell
  have hm' := Lib.hid hm
  clear hS hcell hm
  go_enter Try.func75, Try.ntmps75
  go_wp2
  go_loopw [3, 11] (fun s i wr => wr = w ∧ ∃ k : Nat, k ≤ S.length ∧ i = .int .i64 k ∧ s = .int .i64 (total (S.take k))) (fun _ i _ => S.length - (intOf i).toNat)
  case atStart => exact ⟨rfl, 0, Nat.zero_le _, rfl, rfl⟩
  case round =>
    obtain ⟨rfl, k, hk, rfl, rfl⟩ := hrel
    by_cases hlt : k < S.length
    · obtain ⟨n, a, c, hv, h1, h2, h3⟩ := hS'.out k hlt
      have hc := hc'.out _ hs k hlt
      rw [hv] at hc
      have ht := Lib.hid (total_step S k hlt)
      have hn : S[k].2.1 = n := h1
      have hm1 := total_le S (k + 1)
      have hm2 := hm'.out
      rw [total_step S k hlt, hn] at hm1
      have htk : total (S.take (k + 1)) = total (S.take k) + n := by rw [total_step S k hlt, hn]
      have htk := Lib.hid htk
      clear hn ht h1 h2 h3 hv
      generalize total (S.take k) = tk at *
      go_wp2
      go_roundw
      case rel => exact ⟨by first | trivial | rfl, k + 1, by omega, by go_num, by rw [htk.out]; go_num⟩
      case measure => simp [intOf]; omega
    · have : k = S.length := by omega
      subst this
      rw [List.take_length]
      have hm2 := hm'.out
      go_wp2_with fail
      refine (growRowNode E _ _ _ hs hm2).mono ?_
      rintro e w1 ⟨v1, rfl, hv1, hs1⟩
      have hv1 := Lib.hid hv1
      clear hs
      go_wp2_with fail
      go_loopw [6, 27] (fun v i wr => ∃ k : Nat, k ≤ S.length ∧ i = .int .i64 k ∧ (total (S.take k) = 0 → total S = 0 → v = .slice none 0 0) ∧ sat E wr (row 55 1 v (total (S.take k)) (joined (S.take k)) * (pts B (.cells (S.map (·.1)).toArray 62 (0, 0)) * A))) (fun _ i _ => S.length - (intOf i).toNat)
      case atStart => exact ⟨0, Nat.zero_le _, rfl, fun _ h => hv1.out h, hs1⟩
      case round =>
        obtain ⟨k, hk, rfl, hnil, hs⟩ := hrel
        have hnil := Lib.hid hnil
        by_cases hlt : k < S.length
        · obtain ⟨n, a, c, hv, h1, h2, h4, h3⟩ := hS'.out k hlt
          have hc := hc'.out _ hs.drop k hlt
          have hm1 := total_le S (k + 1)
          have hf := h3 _ hs.drop.drop
          have ht := total_step S k hlt
          rw [hv] at hc hf
          have hn : S[k].2.1 = n := h1
          rw [hn] at ht
          obtain ⟨v', w', hr, hs2, _, _, hz, _⟩ := append_row el.out 62 hs a n c _ h2 hf h4 (by unfold maxLen; omega) (by omega)
          rw [← ht, ← joined_step S k hlt] at hs2
          have hn2 : Hid (total (S.take (k + 1)) = 0 → total S = 0 → v' = .slice none 0 0) := fun h0 h00 => by
            rw [(hz (by omega)).1]
            exact hnil.out (by omega) h00
          clear hnil hz hf h3 h4 h2 h1 hv hn ht hs hm1 hm2
          go_wp2_with (at_builtin; refine Lib.wpList_append_run _ rfl _ _ _ _ rfl _ _ rfl rfl _ _ hr ?_)
          go_roundw
          case rel => exact ⟨k + 1, by omega, by go_num, hn2.out, hs2⟩
          case measure => simp [intOf]; omega
        · have : k = S.length := by omega
          subst this
          rw [List.take_length] at hs hnil
          have hR' := hR.out _ _ ⟨fun h => hnil.out h h, (hs.to (sep_left_comm _ _ _)).drop⟩
          clear hs hR hnil
          go_wp2
          try go_ret
          exact hR'

end Go.Proofs.Ytmibiaakppkmmaa
