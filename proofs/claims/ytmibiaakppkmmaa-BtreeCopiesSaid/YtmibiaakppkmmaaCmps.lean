/- The functions that compare: numbers, values, keys. -/
import Derived.Test.YtmibiaakppkmmaaProg
import Derived.Test.YtmibiaakppkmmaaKeys
import Derived.Test.YtmibiaakppkmmaaDraw
import Derived.WalkKit
import Derived.BigQuiet
import Derived.WalkSpells
import Derived.Lib.Hide
namespace Go.Proofs.Ytmibiaakppkmmaa
open Go.RowKit Go.Sep
set_option linter.unusedVariables false
set_option linter.unusedSimpArgs false

theorem ret_int {k : IntKind} {a b : Int} (h : a = b) : Ending.returned (.int k a) = .returned (.int k b) := by rw [h]
theorem ret_bool {a b : Bool} (h : a = b) : Ending.returned (.bool a) = .returned (.bool b) := by rw [h]
theorem no_lt {α : Type} {l : List α} {k : Nat} {p : Prop} (h : Hid (l = [])) (hk : k < l.length) : p := by
  have := h.out; subst this; exact absurd hk (Nat.not_lt_zero _)

theorem nan8 (a : Int) (w : World) : Calls Try.prog 70 #[.int .u8 a] w fun e w' => e = .returned (.bool false) ∧ w = w' := by
  go_enter Try.func70, Try.ntmps70
  go_wp2
  go_ret
  exact ⟨rfl, rfl⟩
theorem nan64 (a : Int) (w : World) : Calls Try.prog 71 #[.int .i64 a] w fun e w' => e = .returned (.bool false) ∧ w = w' := by
  go_enter Try.func71, Try.ntmps71
  go_wp2
  go_ret
  exact ⟨rfl, rfl⟩
theorem nanI (a : Int) (w : World) : Calls Try.prog 69 #[.int .i64 a] w fun e w' => e = .returned (.bool false) ∧ w = w' := by
  go_enter Try.func69, Try.ntmps69
  go_wp2
  go_ret
  exact ⟨rfl, rfl⟩

theorem cmp8 (a b : Int) (w : World) : Calls Try.prog 59 #[.int .u8 a, .int .u8 b] w fun e w' => e = .returned (.int .i64 (cmpI a b)) ∧ w = w' := by
  go_enter Try.func59, Try.ntmps59
  go_wp2_with (go_at_call 70; refine (nan8 _ _).mono ?_; rintro e w' ⟨rfl, rfl⟩)
  all_goals (go_ret; exact ⟨ret_int (by unfold cmpI; (repeat' split) <;> omega), rfl⟩)
theorem cmp64 (a b : Int) (w : World) : Calls Try.prog 60 #[.int .i64 a, .int .i64 b] w fun e w' => e = .returned (.int .i64 (cmpI a b)) ∧ w = w' := by
  go_enter Try.func60, Try.ntmps60
  go_wp2_with (go_at_call 71; refine (nan64 _ _).mono ?_; rintro e w' ⟨rfl, rfl⟩)
  all_goals (go_ret; exact ⟨ret_int (by unfold cmpI; (repeat' split) <;> omega), rfl⟩)
theorem cmpInt (a b : Int) (w : World) : Calls Try.prog 55 #[.int .i64 a, .int .i64 b] w fun e w' => e = .returned (.int .i64 (cmpI a b)) ∧ w = w' := by
  go_enter Try.func55, Try.ntmps55
  go_wp2_with (go_at_call 69; refine (nanI _ _).mono ?_; rintro e w' ⟨rfl, rfl⟩)
  all_goals (go_ret; exact ⟨ret_int (by unfold cmpI; (repeat' split) <;> omega), rfl⟩)

def orL : List Int → Int
  | [] => 0
  | a :: r => if a = 0 then orL r else a

theorem orL_drop (l : List Int) (k : Nat) (h : k < l.length) : orL (l.drop k) = if l[k] = 0 then orL (l.drop (k + 1)) else l[k] := by
  rw [List.drop_eq_getElem_cons h]; rfl

set_option maxHeartbeats 1000000 in
theorem orInt (l : List Int) (b cap : Nat) (w : World) (hn : l.length ≤ 1000) (hc : ∀ i, (h : i < l.length) → w.cell? ⟨b, i, none⟩ = some (.int .i64 l[i])) :
    Calls Try.prog 54 #[.slice (some ⟨b, 0, none⟩) l.length cap] w fun e w' => e = .returned (.int .i64 (orL l)) ∧ w = w' := by
  go_enter Try.func54, Try.ntmps54
  go_wp2
  go_loop [8] (fun i => ∃ k : Nat, k ≤ l.length ∧ i = .int .i64 k ∧ orL (l.drop k) = orL l) (fun i => l.length - (intOf i).toNat)
  case atStart => exact ⟨0, Nat.zero_le _, rfl, rfl⟩
  case round =>
    obtain ⟨k, hk, rfl, ho⟩ := hrel
    by_cases hlt : k < l.length
    · have hd := orL_drop l k hlt
      have c := hc k hlt
      have ho := Lib.hid (hd.symm.trans ho)
      clear hd hc
      by_cases hz : l[k] = 0
      · have ho : Hid (orL (l.drop (k + 1)) = orL l) := by have := ho.out; rw [if_pos hz] at this; exact this
        go_wp2
        go_round
        case rel => exact ⟨k + 1, by omega, by go_num, ho.out⟩
        case measure => simp [intOf]; omega
      · have ho : Hid (l[k] = orL l) := by have := ho.out; rw [if_neg hz] at this; exact this
        go_wp2
        go_ret
        exact ⟨ret_int ho.out, rfl⟩
    · have : k = l.length := by omega
      go_wp2
      go_ret
      exact ⟨ret_int (by rw [← ho, this]; simp [orL]), rfl⟩

set_option maxHeartbeats 1000000 in
theorem firstInt (l : List Int) (b cap : Nat) (w : World) (hn : l.length ≤ 1000) (hc : ∀ i, (h : i < l.length) → w.cell? ⟨b, i, none⟩ = some (.int .i64 l[i])) :
    Calls Try.prog 58 #[.slice (some ⟨b, 0, none⟩) l.length cap] w fun e w' => e = .returned (.int .i64 (orL l)) ∧ w = w' := by
  go_enter Try.func58, Try.ntmps58
  go_wp2
  go_loop [8] (fun i => ∃ k : Nat, k ≤ l.length ∧ i = .int .i64 k ∧ orL (l.drop k) = orL l) (fun i => l.length - (intOf i).toNat)
  case atStart => exact ⟨0, Nat.zero_le _, rfl, rfl⟩
  case round =>
    obtain ⟨k, hk, rfl, ho⟩ := hrel
    by_cases hlt : k < l.length
    · have hd := orL_drop l k hlt
      have c := hc k hlt
      have ho := Lib.hid (hd.symm.trans ho)
      clear hd hc
      by_cases hz : l[k] = 0
      · have ho : Hid (orL (l.drop (k + 1)) = orL l) := by have := ho.out; rw [if_pos hz] at this; exact this
        go_wp2
        go_round
        case rel => exact ⟨k + 1, by omega, by go_num, ho.out⟩
        case measure => simp [intOf]; omega
      · have ho : Hid (l[k] = orL l) := by have := ho.out; rw [if_neg hz] at this; exact this
        go_wp2
        go_ret
        exact ⟨ret_int ho.out, rfl⟩
    · have : k = l.length := by omega
      go_wp2
      go_ret
      exact ⟨ret_int (by rw [← ho, this]; simp [orL]), rfl⟩



theorem run_cmpstring (a b : ByteArray) (w : World) : (Extern.BytealgCompare.compare #[.string a, .string b]).run Try.prog w = .ok (.int .i64 (Extern.BytealgCompare.cmp a b)) w := by
  rfl

theorem strCmp (a b : ByteArray) (w : World) : Calls Try.prog 61 #[.string a, .string b] w fun e w' => e = .returned (.int .i64 (Extern.BytealgCompare.cmp a b)) ∧ w = w' := by
  have hx : ∀ W, (callFunc 78 #[.string a, .string b]).run Try.prog W = .ok (.value (.int .i64 (Extern.BytealgCompare.cmp a b))) W := fun _ => by kernel_rfl
  go_enter Try.func61, Try.ntmps61
  go_wp2
  go_ret
  exact ⟨rfl, rfl⟩


theorem cmp_lists (a b : List UInt8) : (match (List.range (min a.length b.length)).find? fun i => a[i]! != b[i]! with
  | some i => if a[i]! < b[i]! then (-1 : Int) else 1
  | none => if a.length < b.length then -1 else if a.length > b.length then 1 else 0) = bcmp a b := by
  induction a generalizing b with
  | nil => cases b <;> simp [bcmp, lexBy]
  | cons x a ih =>
    cases b with
    | nil => simp [bcmp, lexBy]
    | cons y b =>
      have ih := ih b
      simp only [List.length_cons, Nat.add_min_add_right, List.range_succ_eq_map, List.find?_cons, bcmp, lexBy] at *
      by_cases e : x = y
      · subst e
        have e0 : cmpI (byteI x) (byteI x) = 0 := by simp [cmpI]
        simp only [e0, if_true, ← ih]
        have e1 : ((x :: a)[0]! != (x :: b)[0]!) = false := by simp
        simp only [e1, List.find?_map]
        have e2 : ((fun i => (x :: a)[i]! != (x :: b)[i]!) ∘ Nat.succ) = fun i => a[i]! != b[i]! := by funext i; simp
        rw [e2]
        cases h : List.find? (fun i => a[i]! != b[i]!) (List.range (min a.length b.length)) with
        | none => simp
        | some i => simp
      · have hn : (x != y) = true := by simpa using e
        have hb : byteI x ≠ byteI y := fun h => e (byteI_inj _ _ h)
        simp [hn]
        simp only [cmpI]
        have : x < y ↔ byteI x < byteI y := by rw [UInt8.lt_iff_toNat_lt]; unfold byteI; omega
        simp only [this]
        split <;> split <;> simp_all <;> omega

theorem bcmp_cmp (a b : List UInt8) : Extern.BytealgCompare.cmp ⟨a.toArray⟩ ⟨b.toArray⟩ = bcmp a b := by
  rw [← cmp_lists]
  have g : ∀ (l : List UInt8) (i : Nat), (⟨l.toArray⟩ : ByteArray)[i]! = l[i]! := by
    intro l i
    simp [getElem!_def, getElem?_def]
    rfl
  simp only [Extern.BytealgCompare.cmp, g]
  rfl

set_option maxHeartbeats 1000000 in
theorem valCmp (E : Env) (A : Asn) (a b : Val) (w : World) (hs : sat E w A) : Calls Try.prog 43 #[.agg a.cells, .agg b.cells] w fun e w' => e = .returned (.int .i64 (vcmp a b)) ∧ sat E w' A := by
  unfold Val.cells
  go_enter Try.func43, Try.ntmps43
  go_wp2
  have hs2 := (hs.alloc (.cells a.cells 52)).alloc (.cells b.cells 52)
  unfold Val.cells at hs2
  rw [World.size_alloc] at hs2
  generalize hw2 : ((w.alloc (Obj.cells #[Value.int IntKind.u8 a.kind, Value.int IntKind.i64 a.n, Value.int IntKind.i64 a.hi, Value.string { data := a.t.toArray }] 52)).alloc (Obj.cells #[Value.int IntKind.u8 b.kind, Value.int IntKind.i64 b.n, Value.int IntKind.i64 b.hi, Value.string { data := b.t.toArray }] 52)) = w2 at *
  generalize hn : w.heap.size = n at *
  generalize hA2 : (pts (n + 1) (Obj.cells #[Value.int IntKind.u8 b.kind, Value.int IntKind.i64 b.n, Value.int IntKind.i64 b.hi, Value.string { data := b.t.toArray }] 52) * (pts n (Obj.cells #[Value.int IntKind.u8 a.kind, Value.int IntKind.i64 a.n, Value.int IntKind.i64 a.hi, Value.string { data := a.t.toArray }] 52) * A)) = A2 at *
  have F : ∀ w', sat E w' A2 → w'.cell? ⟨n, 0, none⟩ = some (.int .u8 a.kind) ∧ w'.cell? ⟨n, 1, none⟩ = some (.int .i64 a.n) ∧ w'.cell? ⟨n, 2, none⟩ = some (.int .i64 a.hi) ∧ w'.cell? ⟨n, 3, none⟩ = some (.string ⟨a.t.toArray⟩) ∧
      w'.cell? ⟨n + 1, 0, none⟩ = some (.int .u8 b.kind) ∧ w'.cell? ⟨n + 1, 1, none⟩ = some (.int .i64 b.n) ∧ w'.cell? ⟨n + 1, 2, none⟩ = some (.int .i64 b.hi) ∧ w'.cell? ⟨n + 1, 3, none⟩ = some (.string ⟨b.t.toArray⟩) := by
    intro w' h
    subst hA2
    have h1 := h.block
    have h2 := (h.to (sep_left_comm _ _ _)).block
    simp [cell_of_block h1, cell_of_block h2]
  have F' := Lib.hid F
  have hN := Lib.hid hn
  have hA := Lib.hid hA2
  clear hw2 hn F hA2
  refine wp_draw_lit [(0,0),(1,0),(2,0),(3,0),(5,0),(6,0),(7,0),(8,0),(10,0),(11,0),(12,0),(13,0),(15,0),(16,0),(17,0),(18,0),(4,1),(9,1),(14,1),(19,1),(20,1),(21,2),(22,3)] (fun w' => sat E w' A2) (by kernel_rfl) (by kernel_rfl) rfl hs2.drew ?_
  iterate 16 (refine wpD_reads _ rfl rfl rfl ?_; apply Exists.intro; refine ⟨fun w' hK => ?_, ?_, ?_⟩; (obtain ⟨f1, f2, f3, f4, g1, g2, g3, g4⟩ := F'.out w' hK; go_wp2; exact ⟨rfl, rfl, rfl⟩); rfl)
  -- the four comparings
  refine wpD_does (by decide) rfl rfl (fun Nx hNx w' hK => ?_)
  go_wp2_with (go_at_call 59; refine (cmp8 _ _ _).mono ?_; rintro e w' ⟨rfl, rfl⟩)
  refine ⟨rfl, (fun w' => sat E w' A2), hK, fun _ _ h => h, hNx _ _ ?_⟩
  refine wpD_does (by decide) rfl rfl (fun Nx hNx w' hK => ?_)
  go_wp2_with (go_at_call 60; refine (cmp64 _ _ _).mono ?_; rintro e w' ⟨rfl, rfl⟩)
  refine ⟨rfl, (fun w' => sat E w' A2), hK, fun _ _ h => h, hNx _ _ ?_⟩
  refine wpD_does (by decide) rfl rfl (fun Nx hNx w' hK => ?_)
  go_wp2_with (go_at_call 60; refine (cmp64 _ _ _).mono ?_; rintro e w' ⟨rfl, rfl⟩)
  refine ⟨rfl, (fun w' => sat E w' A2), hK, fun _ _ h => h, hNx _ _ ?_⟩
  refine wpD_does (by decide) rfl rfl (fun Nx hNx w' hK => ?_)
  go_wp2_with (go_at_call 61; refine (strCmp _ _ _).mono ?_; rintro e w' ⟨rfl, rfl⟩)
  refine ⟨rfl, (fun w' => sat E w' A2), hK, fun _ _ h => h, hNx _ _ ?_⟩
  refine wpD_does (by decide) rfl rfl (fun Nx hNx w' hK => ?_)
  go_wp2
  have hs3 := hK.alloc (.cells #[Value.int IntKind.i64 (cmpI a.kind b.kind), Value.int IntKind.i64 (cmpI a.n b.n), Value.int IntKind.i64 (cmpI a.hi b.hi), Value.int IntKind.i64 (Extern.BytealgCompare.cmp { data := a.t.toArray } { data := b.t.toArray })] 3)
  refine ⟨rfl, (fun w' => sat E w' _), hs3, fun _ _ h => h.drop, hNx _ _ ?_⟩
  refine wpD_does (by decide) rfl rfl (fun Nx hNx w3 hK3 => ?_)
  have hb := hK3.block
  go_wp2_with fail
  refine (firstInt [cmpI a.kind b.kind, cmpI a.n b.n, cmpI a.hi b.hi, Extern.BytealgCompare.cmp { data := a.t.toArray } { data := b.t.toArray }] _ _ _ (by simp) ?_).mono ?_
  · intro i hi
    rw [cell_of_block hb]
    match i, hi with
    | 0, _ => rfl
    | 1, _ => rfl
    | 2, _ => rfl
    | 3, _ => rfl
  rintro e w4 ⟨rfl, rfl⟩
  go_wp2_with fail
  refine ⟨rfl, (fun w' => sat E w' A2), hK3.drop, fun h => (by cases h), hNx _ _ ?_⟩
  refine wpD_move rfl rfl (.inr rfl) ?_
  refine wpD_nil (fun w5 hK5 => ?_)
  go_wp2
  go_ret
  refine ⟨ret_int ?_, ?_⟩
  · simp only [orL, vcmp, orI, bcmp_cmp]
    (repeat' split) <;> simp_all
  · rw [← hA.out] at hK5
    exact hK5.drop.drop

theorem kcmp_drop (l1 l2 : List Val) (k : Nat) (h1 : k < l1.length) (h2 : k < l2.length) : kcmp (l1.drop k) (l2.drop k) = if vcmp l1[k] l2[k] = 0 then kcmp (l1.drop (k + 1)) (l2.drop (k + 1)) else vcmp l1[k] l2[k] := by
  rw [List.drop_eq_getElem_cons h1, List.drop_eq_getElem_cons h2]; rfl

theorem kcmp_left (l1 l2 : List Val) (k : Nat) (h1 : k < l1.length) (h2 : l2.length ≤ k) : kcmp (l1.drop k) (l2.drop k) = 1 := by
  rw [List.drop_eq_getElem_cons h1, List.drop_eq_nil_of_le h2]; rfl
theorem kcmp_right (l1 l2 : List Val) (k : Nat) (h1 : l1.length ≤ k) (h2 : k < l2.length) : kcmp (l1.drop k) (l2.drop k) = -1 := by
  rw [List.drop_eq_getElem_cons h2, List.drop_eq_nil_of_le h1]; rfl
theorem kcmp_none (l1 l2 : List Val) (k : Nat) (h1 : l1.length ≤ k) (h2 : l2.length ≤ k) : kcmp (l1.drop k) (l2.drop k) = 0 := by
  rw [List.drop_eq_nil_of_le h1, List.drop_eq_nil_of_le h2]; rfl

set_option maxHeartbeats 1000000 in
theorem rowCmp (E : Env) (w : World) (A : Asn) (v1 v2 : Value) (l1 l2 : List Val) (hs : sat E w A) (h1 : E.vals v1 l1) (h2 : E.vals v2 l2) :
    Calls Try.prog 42 #[v1, v2, .func (.func 43) #[] #[]] w fun e w' => e = .returned (.int .i64 (kcmp l1 l2)) ∧ sat E w' A := by
  obtain ⟨hn1, a1, b1, o1, cap1, rfl, ha1, h1⟩ := h1
  obtain ⟨hn2, a2, b2, o2, cap2, rfl, ha2, h2⟩ := h2
  rcases ha1 with hl1 | rfl <;> rcases ha2 with hl2 | rfl
  all_goals
    go_enter Try.func42, Try.ntmps42
    go_wp2
    go_loopw [13] (fun i wr => ∃ k : Nat, k ≤ l1.length ∧ k ≤ l2.length ∧ i = .int .i64 k ∧ sat E wr A ∧ kcmp (l1.drop k) (l2.drop k) = kcmp l1 l2) (fun i _ => l1.length - (intOf i).toNat)
    case atStart => exact ⟨0, Nat.zero_le _, Nat.zero_le _, rfl, hs, rfl⟩
    case round =>
      obtain ⟨k, hk1, hk2, rfl, hs, ht⟩ := hrel
      have ht' := Lib.hid ht
      clear ht
      by_cases hlt1 : k < l1.length
      · first
          | exact no_lt hl1 hlt1
          | obtain ⟨lt1, c1, c2, c3, c4⟩ := hs.val (h1 k hlt1)
            by_cases hlt2 : k < l2.length
            · first
                | exact no_lt hl2 hlt2
                | obtain ⟨lt2, d1, d2, d3, d4⟩ := hs.val (h2 k hlt2)
                  clear h1 h2
                  have hd := kcmp_drop l1 l2 k hlt1 hlt2
                  have ht2 : Hid (kcmp l1 l2 = if vcmp l1[k] l2[k] = 0 then kcmp (l1.drop (k + 1)) (l2.drop (k + 1)) else vcmp l1[k] l2[k]) := ht'.out.symm.trans hd
                  clear hd ht'
                  go_wp2_with fail
                  refine (valCmp E A _ _ _ ((hs.alloc' _).alloc' _)).mono ?_
                  rintro e w' ⟨rfl, hs'⟩
                  by_cases hz : vcmp l1[k] l2[k] = 0
                  · have ht3 : Hid (kcmp (l1.drop (k + 1)) (l2.drop (k + 1)) = kcmp l1 l2) := by have := ht2.out; rw [if_pos hz] at this; exact this.symm
                    clear ht2
                    go_wp2
                    go_roundw
                    case rel => exact ⟨k + 1, by omega, by omega, by go_num, hs', ht3.out⟩
                    case measure => simp [intOf]; omega
                  · have ht3 : Hid (kcmp l1 l2 = vcmp l1[k] l2[k]) := by have := ht2.out; rw [if_neg hz] at this; exact this
                    clear ht2
                    go_wp2
                    go_ret
                    exact ⟨ret_int ht3.out.symm, hs'⟩
            · have hz := Lib.hid (ht'.out.symm.trans (kcmp_left l1 l2 k hlt1 (by omega)))
              have hl : l2.length ≤ k := by omega
              go_wp2_with fail
              go_ret
              exact ⟨ret_int hz.out.symm, hs.alloc' _⟩
      · by_cases hlt2 : k < l2.length
        · have hz := Lib.hid (ht'.out.symm.trans (kcmp_right l1 l2 k (by omega) hlt2))
          have hl : l1.length < l2.length := by omega
          go_wp2_with fail
          go_ret
          exact ⟨ret_int hz.out.symm, hs⟩
        · have hz := Lib.hid (ht'.out.symm.trans (kcmp_none l1 l2 k (by omega) (by omega)))
          have hl : ¬ l1.length < l2.length := by omega
          go_wp2_with fail
          go_ret
          exact ⟨ret_int hz.out.symm, hs⟩

end Go.Proofs.Ytmibiaakppkmmaa
