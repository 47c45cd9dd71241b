/- The functions that compare keys and entries. -/
import Derived.Test.YtmibiaakppkmmaaClones
import Derived.WalkLawsBesides
namespace Go.Proofs.Ytmibiaakppkmmaa
open Go.RowKit Go.Sep
set_option linter.unusedVariables false
set_option linter.unusedSimpArgs false

theorem rowCompare (E : Env) (w : World) (A : Asn) (v1 v2 : Value) (l1 l2 : List Val) (hs : sat E w A) (h1 : E.vals v1 l1) (h2 : E.vals v2 l2) :
    Calls Try.prog 28 #[v1, v2] w (Ret fun v w' => v = .int .i64 (kcmp l1 l2) ∧ sat E w' A) := by
  go_enter Try.func28, Try.ntmps28
  go_wp2_with (go_at_call 42; refine (rowCmp E _ A _ _ _ _ hs h1 h2).mono ?_; rintro e w' ⟨rfl, hs'⟩)
  go_ret
  exact ⟨_, rfl, rfl, hs'⟩

theorem intCells {w : World} {n : Nat} {l : List Value} (hb : w.heap[n]? = some (.cells l.toArray 3 (0, 0))) (m : List Int) (hm : l = m.map (Value.int .i64)) : ∀ i, (h : i < m.length) → w.cell? ⟨n, i, none⟩ = some (.int .i64 m[i]) := by
  intro i h
  rw [cell_of_block hb, hm]
  simp [h]

set_option maxHeartbeats 1000000 in
/-- which entry stands ahead -/
theorem entCompare (E : Env) (w : World) (A : Asn) (k1 k2 : Value) (i1 i2 : Int) (l1 l2 : List Val) (hs : sat E w A) (h1 : E.vals k1 l1) (h2 : E.vals k2 l2) :
    Calls Try.prog 37 #[.agg #[k1, .int .i64 i1], .agg #[k2, .int .i64 i2]] w (Ret fun v w' => v = .int .i64 (ecmp (l1, i1) (l2, i2)) ∧ sat E w' A) := by
  go_enter Try.func37, Try.ntmps37
  go_wp2
  have hs2 := (hs.alloc (.cells #[k1, .int .i64 i1] 35)).alloc (.cells #[k2, .int .i64 i2] 35)
  rw [World.size_alloc] at hs2
  generalize (w.alloc (.cells #[k1, .int .i64 i1] 35)).alloc (.cells #[k2, .int .i64 i2] 35) = w2 at *
  generalize w.heap.size = n at *
  refine wp_draw_lit [(0,3),(1,0),(2,3),(3,0),(5,3),(6,0),(7,3),(8,0),(4,1),(9,2),(10,2),(11,2),(12,3)] (fun w' => sat E w' (pts (n + 1) (.cells #[k2, .int .i64 i2] 35) * (pts n (.cells #[k1, .int .i64 i1] 35) * A))) (by kernel_rfl) (by kernel_rfl) rfl hs2.drew ?_
  iterate 8 (first | (refine wpD_pure _ rfl rfl rfl ?_; apply Exists.intro; refine ⟨fun w' => ?_, ?_, ?_⟩; (go_wp2; exact ⟨rfl, rfl, rfl⟩); rfl) | (refine wpD_reads _ rfl rfl rfl ?_; apply Exists.intro; refine ⟨fun w' hK => ?_, ?_, ?_⟩; ((obtain ⟨f0, f1, f2, f3, f4⟩ := entFacts w' (hK.to (sep_left_comm _ _ _)); obtain ⟨g0, g1, g2, g3, g4⟩ := entFacts w' hK); go_wp2; exact ⟨rfl, rfl, rfl⟩); rfl))
  refine wpD_does (by decide) rfl rfl (fun Nx hNx w' hK => ?_)
  go_wp2_with fail
  refine (rowCompare E _ _ _ _ l1 l2 hK h1 h2).mono ?_
  rintro e w3 ⟨_, rfl, rfl, hs3⟩
  go_wp2_with fail
  refine ⟨rfl, (fun x => sat E x _), hs3, fun _ x hx => hx, hNx _ _ ?_⟩
  clear hs3 hK hNx
  refine wpD_does (by decide) rfl rfl (fun Nx hNx w' hK => ?_)
  go_wp2_with fail
  refine (cmpInt _ _ _).mono ?_
  rintro e w3 ⟨rfl, rfl⟩
  go_wp2_with fail
  refine ⟨rfl, (fun x => sat E x _), hK, fun h => (by cases h), hNx _ _ ?_⟩
  clear hK hNx
  refine wpD_does (by decide) rfl rfl (fun Nx hNx w' hK => ?_)
  go_wp2
  refine ⟨rfl, (fun x => sat E x _), hK.alloc _, fun h => (by cases h), hNx _ _ ?_⟩
  clear hK hNx
  refine wpD_does (by decide) rfl rfl (fun Nx hNx w4 hK => ?_)
  have hb := hK.block
  go_wp2_with fail
  refine (orInt [kcmp l1 l2, cmpI i1 i2] _ _ _ (by simp) (intCells hb _ rfl)).mono ?_
  rintro e w5 ⟨rfl, rfl⟩
  go_wp2_with fail
  refine ⟨rfl, (fun x => sat E x _), hK, fun h => (by cases h), hNx _ _ ?_⟩
  clear hK hNx hb
  iterate 1 (first | (refine wpD_pure _ rfl rfl rfl ?_; apply Exists.intro; refine ⟨fun w' => ?_, ?_, ?_⟩; (go_wp2; exact ⟨rfl, rfl, rfl⟩); rfl) | (refine wpD_reads _ rfl rfl rfl ?_; apply Exists.intro; refine ⟨fun w' hK => ?_, ?_, ?_⟩; (skip; go_wp2; exact ⟨rfl, rfl, rfl⟩); rfl))
  refine wpD_nil (fun w5 hK5 => ?_)
  go_wp2
  go_ret
  refine ⟨_, rfl, ?_, hK5.drop.drop.drop⟩
  simp [orL, ecmp, orI]
  (repeat' split) <;> simp_all

/-- where a key stands -/
theorem entKey (E : Env) (w : World) (A : Asn) (k1 k2 : Value) (i1 : Int) (l1 l2 : List Val) (hs : sat E w A) (h1 : E.vals k1 l1) (h2 : E.vals k2 l2) :
    Calls Try.prog 57 #[.agg #[k1, .int .i64 i1], k2] w (Ret fun v w' => v = .int .i64 (kcmp l1 l2) ∧ sat E w' A) := by
  go_enter Try.func57, Try.ntmps57
  go_wp2_with (go_at_call 28; refine (rowCompare E _ A _ _ _ _ (hs.alloc' _) h1 h2).mono ?_; rintro e w' ⟨_, rfl, rfl, hs'⟩)
  go_ret
  exact ⟨_, rfl, rfl, hs'⟩

theorem eq_val (a b : Val) (w : World) : (Op.equalIn 10000 52 (.agg #[.int .u8 a.kind, .int .i64 a.n, .int .i64 a.hi, .string ⟨a.t.toArray⟩]) (.agg #[.int .u8 b.kind, .int .i64 b.n, .int .i64 b.hi, .string ⟨b.t.toArray⟩])).run Try.prog w = .ok (decide (a = b)) w := by
  obtain ⟨a1, a2, a3, a4⟩ := a
  obtain ⟨b1, b2, b3, b4⟩ := b
  simp [go_sem]
  (repeat' split) <;> simp_all

theorem neq_val (a b : Val) (w : World) : (binOp .neq 52 (.agg #[.int .u8 a.kind, .int .i64 a.n, .int .i64 a.hi, .string ⟨a.t.toArray⟩]) (.agg #[.int .u8 b.kind, .int .i64 b.n, .int .i64 b.hi, .string ⟨b.t.toArray⟩])).run Try.prog w = .ok (.bool (!decide (a = b))) w := by
  simp only [binOp]
  simp [Op.equal, Op.maxDepth, eq_val]

theorem guard_val (a b : Val) (o : BinOp) (x y : Operand) (w : World) : (eqGuard o 52 x y (.agg #[.int .u8 a.kind, .int .i64 a.n, .int .i64 a.hi, .string ⟨a.t.toArray⟩]) (.agg #[.int .u8 b.kind, .int .i64 b.n, .int .i64 b.hi, .string ⟨b.t.toArray⟩])).run Try.prog w = .ok () w :=
  run_eqGuard_agg w o 52 x y _ _ (by kernel_rfl)

theorem sat.drewN {E : Env} {w : World} {A : Asn} (h : sat E w A) (n : Nat) : sat E (w.drewN n) A := h.more (fun _ _ => rfl) rfl rfl rfl

theorem take_eq_step {α : Type} (l1 l2 : List α) (k : Nat) (h1 : k < l1.length) (h2 : k < l2.length) (h : l1.take k = l2.take k) (e : l1[k] = l2[k]) : l1.take (k + 1) = l2.take (k + 1) := by
  rw [List.take_succ_eq_append_getElem h1, List.take_succ_eq_append_getElem h2, h, e]

set_option maxHeartbeats 1000000 in
/-- slices.Equal -/
theorem equalVals (E : Env) (w : World) (A : Asn) (v1 v2 : Value) (l1 l2 : List Val) (hs : sat E w A) (h1 : E.vals v1 l1) (h2 : E.vals v2 l2) :
    Calls Try.prog 45 #[v1, v2] w (Ret fun v w' => v = .bool (decide (l1 = l2)) ∧ sat E w' A) := by
  obtain ⟨hn1, a1, b1, o1, cap1, rfl, ha1, h1⟩ := h1
  obtain ⟨hn2, a2, b2, o2, cap2, rfl, ha2, h2⟩ := h2
  have q1 := neq_val
  have q2 := guard_val
  by_cases hl : l1.length = l2.length
  · rcases ha1 with hl1 | rfl <;> rcases ha2 with hl2 | rfl
    all_goals
      have hl' : Hid (l1.length = l2.length) := hl
      go_enter Try.func45, Try.ntmps45
      go_wp2
      go_loopw [13] (fun i wr => ∃ k : Nat, k ≤ l1.length ∧ i = .int .i64 k ∧ sat E wr A ∧ l1.take k = l2.take k) (fun i _ => l1.length - (intOf i).toNat)
      case atStart => exact ⟨0, Nat.zero_le _, rfl, hs, rfl⟩
      case round =>
        obtain ⟨k, hk, rfl, hs, ht⟩ := hrel
        have ht' := Lib.hid ht
        clear ht hl
        by_cases hlt : k < l2.length
        · have hlt1 : k < l1.length := by have := hl'.out; omega
          first
            | exact no_lt hl1 hlt1
            | exact no_lt hl2 hlt
            | obtain ⟨lt1, c1, c2, c3, c4⟩ := hs.val (h1 k hlt1)
              obtain ⟨lt2, d1, d2, d3, d4⟩ := hs.val (h2 k hlt)
              clear h1 h2
              by_cases hz : l1[k] = l2[k]
              · have ht2 := Lib.hid (take_eq_step l1 l2 k hlt1 hlt ht'.out hz)
                have hz' : decide (l1[k] = l2[k]) = true := by simpa using hz
                have hz := Lib.hid hz
                clear ht' hz
                go_wp2
                go_quiet (fail)
                go_wp2
                go_roundw
                case rel => exact ⟨k + 1, by omega, by go_num, sat.drewN hs _, ht2.out⟩
                case measure => simp [intOf]; omega
              · have hne : Hid (decide (l1 = l2) = false) := decide_eq_false (fun e => hz (by subst e; rfl))
                have hz' : decide (l1[k] = l2[k]) = false := by simpa using hz
                have hz := Lib.hid hz
                clear ht' hz
                go_wp2
                go_quiet (fail)
                go_wp2
                go_ret
                exact ⟨_, rfl, by rw [hne.out]; first | done | rfl, sat.drewN hs _⟩
        · have he : Hid (decide (l1 = l2) = true) := decide_eq_true (by have h := ht'.out; rwa [List.take_of_length_le (by have := hl'.out; omega), List.take_of_length_le (by omega)] at h)
          have hlt1 : ¬ k < l1.length := by have := hl'.out; omega
          go_wp2
          go_ret
          exact ⟨_, rfl, by rw [he.out]; first | done | rfl, hs⟩
  · have hne : Hid (decide (l1 = l2) = false) := decide_eq_false (fun e => hl (by subst e; rfl))
    clear ha1 ha2 h1 h2
    go_enter Try.func45, Try.ntmps45
    go_wp2
    all_goals
      go_ret
      exact ⟨_, rfl, by rw [hne.out]; first | done | rfl, hs⟩

set_option maxHeartbeats 1000000 in
/-- the document's Same -/
theorem refSame (E : Env) (w : World) (A : Asn) (v1 v2 : Value) (l1 l2 : List Val) (hs : sat E w A) (h1 : E.vals v1 l1) (h2 : E.vals v2 l2) :
    Calls Try.prog 13 #[v1, v2] w (Ret fun v w' => v = .bool (decide (l1 = l2)) ∧ sat E w' A) := by
  obtain ⟨hn1, a1, b1, o1, cap1, rfl, ha1, h1⟩ := h1
  obtain ⟨hn2, a2, b2, o2, cap2, rfl, ha2, h2⟩ := h2
  have q1 := neq_val
  have q2 := guard_val
  by_cases hl : l1.length = l2.length
  · rcases ha1 with hl1 | rfl <;> rcases ha2 with hl2 | rfl
    all_goals
      have hl' : Hid (l1.length = l2.length) := hl
      go_enter Try.func13, Try.ntmps13
      go_wp2
      go_loopw [5] (fun i wr => ∃ k : Nat, k ≤ l1.length ∧ i = .int .i64 k ∧ sat E wr A ∧ l1.take k = l2.take k) (fun i _ => l1.length - (intOf i).toNat)
      case atStart => exact ⟨0, Nat.zero_le _, rfl, hs, rfl⟩
      case round =>
        obtain ⟨k, hk, rfl, hs, ht⟩ := hrel
        have ht' := Lib.hid ht
        clear ht hl
        by_cases hlt : k < l2.length
        · have hlt1 : k < l1.length := by have := hl'.out; omega
          first
            | exact no_lt hl1 hlt1
            | exact no_lt hl2 hlt
            | obtain ⟨lt1, c1, c2, c3, c4⟩ := hs.val (h1 k hlt1)
              obtain ⟨lt2, d1, d2, d3, d4⟩ := hs.val (h2 k hlt)
              clear h1 h2
              by_cases hz : l1[k] = l2[k]
              · have ht2 := Lib.hid (take_eq_step l1 l2 k hlt1 hlt ht'.out hz)
                have hz' : decide (l1[k] = l2[k]) = true := by simpa using hz
                have hz := Lib.hid hz
                clear ht' hz
                go_wp2
                go_quiet (fail)
                go_wp2
                go_roundw
                case rel => exact ⟨k + 1, by omega, by go_num, sat.drewN hs _, ht2.out⟩
                case measure => simp [intOf]; omega
              · have hne : Hid (decide (l1 = l2) = false) := decide_eq_false (fun e => hz (by subst e; rfl))
                have hz' : decide (l1[k] = l2[k]) = false := by simpa using hz
                have hz := Lib.hid hz
                clear ht' hz
                go_wp2
                go_quiet (fail)
                go_wp2
                go_ret
                exact ⟨_, rfl, by rw [hne.out]; first | done | rfl, sat.drewN hs _⟩
        · have he : Hid (decide (l1 = l2) = true) := decide_eq_true (by have h := ht'.out; rwa [List.take_of_length_le (by have := hl'.out; omega), List.take_of_length_le (by omega)] at h)
          have hlt1 : ¬ k < l1.length := by have := hl'.out; omega
          go_wp2
          go_ret
          exact ⟨_, rfl, by rw [he.out]; first | done | rfl, hs⟩
  · have hne : Hid (decide (l1 = l2) = false) := decide_eq_false (fun e => hl (by subst e; rfl))
    clear ha1 ha2 h1 h2
    go_enter Try.func13, Try.ntmps13
    go_wp2
    all_goals
      go_ret
      exact ⟨_, rfl, by rw [hne.out]; first | done | rfl, hs⟩

theorem rowSame (E : Env) (w : World) (A : Asn) (v1 v2 : Value) (l1 l2 : List Val) (hs : sat E w A) (h1 : E.vals v1 l1) (h2 : E.vals v2 l2) :
    Calls Try.prog 30 #[v1, v2] w (Ret fun v w' => v = .bool (decide (l1 = l2)) ∧ sat E w' A) := by
  go_enter Try.func30, Try.ntmps30
  go_wp2_with (go_at_call 45; refine (equalVals E _ A _ _ _ _ hs h1 h2).mono ?_; rintro e w' ⟨_, rfl, rfl, hs'⟩)
  go_ret
  exact ⟨_, rfl, rfl, hs'⟩

end Go.Proofs.Ytmibiaakppkmmaa
