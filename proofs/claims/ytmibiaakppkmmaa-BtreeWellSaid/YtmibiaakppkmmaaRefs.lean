/- The reference's comparing of values and of keys; the reference's bounds of a height. -/
import Derived.Test.YtmibiaakppkmmaaStps
namespace Go.Proofs.Ytmibiaakppkmmaa
open Go.RowKit Go.Sep
set_option linter.unusedVariables false
set_option linter.unusedSimpArgs false

theorem bcmp_drop (l1 l2 : List UInt8) (k : Nat) (h1 : k < l1.length) (h2 : k < l2.length) : bcmp (l1.drop k) (l2.drop k) = if cmpI (byteI l1[k]) (byteI l2[k]) = 0 then bcmp (l1.drop (k + 1)) (l2.drop (k + 1)) else cmpI (byteI l1[k]) (byteI l2[k]) := by
  rw [List.drop_eq_getElem_cons h1, List.drop_eq_getElem_cons h2]; rfl

theorem bcmp_end (l1 l2 : List UInt8) (k : Nat) (h1 : k ≤ l1.length) (h2 : k ≤ l2.length) (h : l1.length = k ∨ l2.length = k) : bcmp (l1.drop k) (l2.drop k) = cmpI l1.length l2.length := by
  by_cases e1 : l1.length = k
  · rw [List.drop_of_length_le (by omega : l1.length ≤ k)]
    by_cases e2 : l2.length = k
    · rw [List.drop_of_length_le (by omega : l2.length ≤ k)]
      unfold cmpI; rw [if_neg (by omega), if_neg (by omega)]; rfl
    · rw [List.drop_eq_getElem_cons (by omega : k < l2.length)]
      unfold cmpI; rw [if_pos (by omega)]; rfl
  · have e2 : l2.length = k := by omega
    rw [List.drop_of_length_le (by omega : l2.length ≤ k), List.drop_eq_getElem_cons (by omega : k < l1.length)]
    unfold cmpI; rw [if_neg (by omega), if_pos (by omega)]; rfl

theorem cmpI_lt {a b : Int} (h : a < b) : cmpI a b = -1 := by unfold cmpI; rw [if_pos h]
theorem cmpI_gt {a b : Int} (h : b < a) : cmpI a b = 1 := by unfold cmpI; rw [if_neg (by omega), if_pos h]
theorem cmpI_eq {a b : Int} (h : a = b) : cmpI a b = 0 := by unfold cmpI; rw [if_neg (by omega), if_neg (by omega)]
theorem vcmp_kind {a b : Val} (h : a.kind ≠ b.kind) : vcmp a b = cmpI a.kind b.kind := by
  unfold vcmp orI; rw [if_neg]; intro h2; exact h ((Cmp.int.eq _ _).1 h2)
theorem vcmp_n {a b : Val} (h0 : a.kind = b.kind) (h : a.n ≠ b.n) : vcmp a b = cmpI a.n b.n := by
  unfold vcmp orI; rw [if_pos (cmpI_eq h0), if_neg]; intro h2; exact h ((Cmp.int.eq _ _).1 h2)
theorem vcmp_hi {a b : Val} (h0 : a.kind = b.kind) (h1 : a.n = b.n) (h : a.hi ≠ b.hi) : vcmp a b = cmpI a.hi b.hi := by
  unfold vcmp orI; rw [if_pos (cmpI_eq h0), if_pos (cmpI_eq h1), if_neg]; intro h2; exact h ((Cmp.int.eq _ _).1 h2)
theorem vcmp_t {a b : Val} (h0 : a.kind = b.kind) (h1 : a.n = b.n) (h : a.hi = b.hi) : vcmp a b = bcmp a.t b.t := by
  unfold vcmp orI; rw [if_pos (cmpI_eq h0), if_pos (cmpI_eq h1), if_pos (cmpI_eq h)]

set_option maxRecDepth 10000 in
set_option maxHeartbeats 2000000 in
theorem refVal (E : Env) (A : Asn) (a b : Val) (w : World) (hs : sat E w A) (ha : a.t.length ≤ 140737488355328) (hb : b.t.length ≤ 140737488355328) : Calls Try.prog 38 #[.agg a.cells, .agg b.cells] w fun e w' => e = .returned (.int .i64 (vcmp a b)) ∧ sat E w' A := by
  have hs2 := (hs.alloc' (.cells a.cells 52)).alloc' (.cells b.cells 52)
  by_cases h0 : a.kind = b.kind
  · have h0' : (a.kind != b.kind) = false := by simp [h0]
    by_cases h1 : a.n = b.n
    · have h1' : (a.n != b.n) = false := by simp [h1]
      by_cases h2 : a.hi = b.hi
      · have h2' : (a.hi != b.hi) = false := by simp [h2]
        rw [vcmp_t h0 h1 h2]
        have hs3 := (hs.alloc (.cells a.cells 52)).alloc (.cells b.cells 52)
        rw [World.size_alloc] at hs3
        obtain ⟨ka, na, hia, s⟩ := a
        obtain ⟨kb, nb, hib, t⟩ := b
        dsimp only [Val.cells] at *
        replace h0 := Lib.hid h0
        replace h1 := Lib.hid h1
        replace h2 := Lib.hid h2
        clear hs2 hs
        go_enter Try.func38, Try.ntmps38
        go_wp2
        generalize hca : (Obj.cells #[Value.int IntKind.u8 ka, Value.int IntKind.i64 na, Value.int IntKind.i64 hia, Value.string { data := s.toArray }] 52) = ca at *
        generalize hcb : (Obj.cells #[Value.int IntKind.u8 kb, Value.int IntKind.i64 nb, Value.int IntKind.i64 hib, Value.string { data := t.toArray }] 52) = cb at *
        generalize hw2 : (w.alloc ca).alloc cb = w2 at *
        generalize hn : w.heap.size = n at *
        have F : ∀ w', sat E w' (pts (n + 1) cb * (pts n ca * A)) → w'.cell? ⟨n, 3, none⟩ = some (.string ⟨s.toArray⟩) ∧ w'.cell? ⟨n + 1, 3, none⟩ = some (.string ⟨t.toArray⟩) := by
          intro w' h
          subst hca hcb
          have h1 := h.block
          have h2 := (h.to (sep_left_comm _ _ _)).block
          simp [cell_of_block h1, cell_of_block h2]
        replace F := Lib.hid F
        clear hw2 hn hca hcb h0' h1' h2' h0 h1 h2
        have ga : (ByteArray.mk s.toArray).size = s.length := rfl
        have gb : (ByteArray.mk t.toArray).size = t.length := rfl
        go_loopw [5] (fun i wr => ∃ k : Nat, k ≤ s.length ∧ k ≤ t.length ∧ i = .int .i64 k ∧ sat E wr (pts (n + 1) cb * (pts n ca * A)) ∧ Hid (bcmp (s.drop k) (t.drop k) = bcmp s t)) (fun i _ => s.length - (intOf i).toNat)
        case atStart => exact ⟨0, Nat.zero_le _, Nat.zero_le _, rfl, hs3, Lib.hid rfl⟩
        case round =>
          clear hs3
          obtain ⟨k, hk1, hk2, rfl, hs, hbc⟩ := hrel
          obtain ⟨f1, f2⟩ := F.out _ hs
          by_cases hlt1 : k < s.length
          · by_cases hlt2 : k < t.length
            · have hd := bcmp_drop s t k hlt1 hlt2
              rw [hbc.out] at hd
              replace hd := Lib.hid hd
              obtain ⟨x, hx, hx'⟩ : ∃ x : Nat, ((ByteArray.mk s.toArray)[k]'hlt1).toNat = x ∧ byteI s[k] = x := ⟨_, rfl, rfl⟩
              obtain ⟨y, hy, hy'⟩ : ∃ y : Nat, ((ByteArray.mk t.toArray)[k]'hlt2).toNat = y ∧ byteI t[k] = y := ⟨_, rfl, rfl⟩
              rw [hx', hy'] at hd
              clear hx' hy' hbc
              rcases Nat.lt_trichotomy x y with hxy | hxy | hxy
              · have hr : Hid (bcmp s t = -1) := by have := hd.out; rw [cmpI_lt (by omega), if_neg (by omega)] at this; exact this
                clear hd
                go_wp2
                go_quiet (fail)
                go_wp2
                go_ret
                exact ⟨ret_int hr.out.symm, by first | exact hs.drop.drop | exact (sat.drewN hs _).drop.drop | exact (sat.drewN (sat.drewN hs _) _).drop.drop⟩
              · have hr : Hid (bcmp (s.drop (k + 1)) (t.drop (k + 1)) = bcmp s t) := by have := hd.out; rw [cmpI_eq (by omega), if_pos rfl] at this; exact this.symm
                clear hd
                subst hxy
                go_wp2
                go_quiet (fail)
                go_wp2
                go_quiet (fail)
                go_wp2
                go_roundw
                case rel => exact ⟨k + 1, by omega, by omega, by go_num, sat.drewN hs _, hr⟩
                case measure => simp [intOf]; omega
              · have hr : Hid (bcmp s t = 1) := by have := hd.out; rw [cmpI_gt (by omega), if_neg (by omega)] at this; exact this
                clear hd
                go_wp2
                go_quiet (fail)
                go_wp2
                go_quiet (fail)
                go_wp2
                go_ret
                exact ⟨ret_int hr.out.symm, by first | exact hs.drop.drop | exact (sat.drewN hs _).drop.drop | exact (sat.drewN (sat.drewN hs _) _).drop.drop⟩
            · have hz := Lib.hid (hbc.out.symm.trans (bcmp_end s t k hk1 hk2 (.inr (by omega))))
              have hle : t.length < s.length := by omega
              rw [cmpI_gt (by omega)] at hz
              clear hbc
              go_wp2
              go_ret
              exact ⟨ret_int hz.out.symm, hs.drop.drop⟩
          · have hz := Lib.hid (hbc.out.symm.trans (bcmp_end s t k hk1 hk2 (.inl (by omega))))
            clear hbc
            rcases Nat.lt_or_ge s.length t.length with hle | hle
            · rw [cmpI_lt (by omega)] at hz
              go_wp2
              go_ret
              exact ⟨ret_int hz.out.symm, hs.drop.drop⟩
            · rw [cmpI_eq (by omega)] at hz
              go_wp2
              go_ret
              exact ⟨ret_int hz.out.symm, hs.drop.drop⟩
      · have h2' : (a.hi != b.hi) = true := by simp [h2]
        rw [vcmp_hi h0 h1 h2]
        replace h0 := Lib.hid h0
        replace h1 := Lib.hid h1
        by_cases hlt : a.hi < b.hi
        · rw [cmpI_lt hlt]
          unfold Val.cells at *
          clear h2
          go_enter Try.func38, Try.ntmps38
          go_wp2
          go_ret
          exact ⟨rfl, hs2⟩
        · rw [cmpI_gt (by omega)]
          unfold Val.cells at *
          clear h2
          go_enter Try.func38, Try.ntmps38
          go_wp2
          go_ret
          exact ⟨rfl, hs2⟩
    · have h1' : (a.n != b.n) = true := by simp [h1]
      rw [vcmp_n h0 h1]
      replace h0 := Lib.hid h0
      by_cases hlt : a.n < b.n
      · rw [cmpI_lt hlt]
        unfold Val.cells at *
        clear h1
        go_enter Try.func38, Try.ntmps38
        go_wp2
        go_ret
        exact ⟨rfl, hs2⟩
      · rw [cmpI_gt (by omega)]
        unfold Val.cells at *
        clear h1
        go_enter Try.func38, Try.ntmps38
        go_wp2
        go_ret
        exact ⟨rfl, hs2⟩
  · have h0' : (a.kind != b.kind) = true := by simp [h0]
    rw [vcmp_kind h0]
    by_cases hlt : a.kind < b.kind
    · rw [cmpI_lt hlt]
      unfold Val.cells at *
      clear h0
      go_enter Try.func38, Try.ntmps38
      go_wp2
      go_ret
      exact ⟨rfl, hs2⟩
    · rw [cmpI_gt (by omega)]
      unfold Val.cells at *
      clear h0
      go_enter Try.func38, Try.ntmps38
      go_wp2
      go_ret
      exact ⟨rfl, hs2⟩

/-! heights -/
def pw : Nat → Int × Int
  | 0 => (1, 8)
  | 1 => (4, 64)
  | 2 => (16, 512)
  | 3 => (64, 4096)
  | _ => (256, 32768)

set_option maxRecDepth 10000 in
set_option maxHeartbeats 2000000 in
/-- the reference's bounds hold -/
theorem refHeight (w : World) (n h : Nat) (hn : n ≤ 800) (hh : highOf n h) : Calls Try.prog 22 #[.int .i64 n, .int .i64 h] w fun e w' => e = .returned (.bool true) ∧ w = w' := by
  rcases hh with ⟨rfl, rfl⟩ | ⟨d, rfl, h2, h3⟩
  · go_enter Try.func22, Try.ntmps22
    go_wp2
    go_ret
    exact ⟨rfl, rfl⟩
  · have hd : d ≤ 4 := by
      rcases Nat.lt_or_ge 4 d with h | h
      · have : 4 ^ 5 ≤ 4 ^ d := Nat.pow_le_pow_right (by decide) h
        omega
      · exact h
    have hn0 : n ≠ 0 := by have := Nat.one_le_two_pow (n := 2 * d); have : 4 ^ d = 2 ^ (2 * d) := by rw [Nat.pow_mul]
                           omega
    have hn1 : ((n : Int) == 0) = false := by simp; omega
    obtain rfl | rfl | rfl | rfl | rfl : d = 0 ∨ d = 1 ∨ d = 2 ∨ d = 3 ∨ d = 4 := by omega
    · have hA : ((1 : Int) ≤ n) := by omega
      have hB : ((n : Int) ≤ 7) := by omega
      clear hn0 h2 h3 hn hd
      go_enter Try.func22, Try.ntmps22
      go_wp2
      go_loop [5, 6, 7] (fun lo hi i => ∃ k : Nat, k ≤ 0 ∧ i = .int .i64 ((k : Int) + 1) ∧ lo = .int .i64 (pw k).1 ∧ hi = .int .i64 (pw k).2) (fun _ _ i => 2 - (intOf i).toNat)
      case atStart => exact ⟨0, by omega, rfl, rfl, rfl⟩
      case round =>
        obtain ⟨k, hk, rfl, rfl, rfl⟩ := hrel
        obtain rfl : k = 0 := by omega
        · simp only [pw]
          clear hk
          have hC : ((1 : Int) ≤ n) := by omega
          go_wp2
          go_ret
          exact ⟨rfl, rfl⟩
    · have hA : ((7 : Int) ≤ n) := by omega
      have hB : ((n : Int) ≤ 63) := by omega
      clear hn0 h2 h3 hn hd
      go_enter Try.func22, Try.ntmps22
      go_wp2
      go_loop [5, 6, 7] (fun lo hi i => ∃ k : Nat, k ≤ 1 ∧ i = .int .i64 ((k : Int) + 1) ∧ lo = .int .i64 (pw k).1 ∧ hi = .int .i64 (pw k).2) (fun _ _ i => 3 - (intOf i).toNat)
      case atStart => exact ⟨0, by omega, rfl, rfl, rfl⟩
      case round =>
        obtain ⟨k, hk, rfl, rfl, rfl⟩ := hrel
        obtain rfl | rfl : k = 0 ∨ k = 1 := by omega
        · simp only [pw]
          clear hk
          have hC : ((1 : Int) ≤ n) := by omega
          go_wp2
          go_round
          case rel => exact ⟨1, by omega, rfl, rfl, rfl⟩
          case measure => simp [intOf]
        · simp only [pw]
          clear hk
          have hC : ((4 : Int) ≤ n) := by omega
          go_wp2
          go_ret
          exact ⟨rfl, rfl⟩
    · have hA : ((31 : Int) ≤ n) := by omega
      have hB : ((n : Int) ≤ 511) := by omega
      clear hn0 h2 h3 hn hd
      go_enter Try.func22, Try.ntmps22
      go_wp2
      go_loop [5, 6, 7] (fun lo hi i => ∃ k : Nat, k ≤ 2 ∧ i = .int .i64 ((k : Int) + 1) ∧ lo = .int .i64 (pw k).1 ∧ hi = .int .i64 (pw k).2) (fun _ _ i => 4 - (intOf i).toNat)
      case atStart => exact ⟨0, by omega, rfl, rfl, rfl⟩
      case round =>
        obtain ⟨k, hk, rfl, rfl, rfl⟩ := hrel
        obtain rfl | rfl | rfl : k = 0 ∨ k = 1 ∨ k = 2 := by omega
        · simp only [pw]
          clear hk
          have hC : ((1 : Int) ≤ n) := by omega
          go_wp2
          go_round
          case rel => exact ⟨1, by omega, rfl, rfl, rfl⟩
          case measure => simp [intOf]
        · simp only [pw]
          clear hk
          have hC : ((4 : Int) ≤ n) := by omega
          go_wp2
          go_round
          case rel => exact ⟨2, by omega, rfl, rfl, rfl⟩
          case measure => simp [intOf]
        · simp only [pw]
          clear hk
          have hC : ((16 : Int) ≤ n) := by omega
          go_wp2
          go_ret
          exact ⟨rfl, rfl⟩
    · have hA : ((127 : Int) ≤ n) := by omega
      have hB : ((n : Int) ≤ 4095) := by omega
      clear hn0 h2 h3 hn hd
      go_enter Try.func22, Try.ntmps22
      go_wp2
      go_loop [5, 6, 7] (fun lo hi i => ∃ k : Nat, k ≤ 3 ∧ i = .int .i64 ((k : Int) + 1) ∧ lo = .int .i64 (pw k).1 ∧ hi = .int .i64 (pw k).2) (fun _ _ i => 5 - (intOf i).toNat)
      case atStart => exact ⟨0, by omega, rfl, rfl, rfl⟩
      case round =>
        obtain ⟨k, hk, rfl, rfl, rfl⟩ := hrel
        obtain rfl | rfl | rfl | rfl : k = 0 ∨ k = 1 ∨ k = 2 ∨ k = 3 := by omega
        · simp only [pw]
          clear hk
          have hC : ((1 : Int) ≤ n) := by omega
          go_wp2
          go_round
          case rel => exact ⟨1, by omega, rfl, rfl, rfl⟩
          case measure => simp [intOf]
        · simp only [pw]
          clear hk
          have hC : ((4 : Int) ≤ n) := by omega
          go_wp2
          go_round
          case rel => exact ⟨2, by omega, rfl, rfl, rfl⟩
          case measure => simp [intOf]
        · simp only [pw]
          clear hk
          have hC : ((16 : Int) ≤ n) := by omega
          go_wp2
          go_round
          case rel => exact ⟨3, by omega, rfl, rfl, rfl⟩
          case measure => simp [intOf]
        · simp only [pw]
          clear hk
          have hC : ((64 : Int) ≤ n) := by omega
          go_wp2
          go_ret
          exact ⟨rfl, rfl⟩
    · have hA : ((511 : Int) ≤ n) := by omega
      have hB : ((n : Int) ≤ 32767) := by omega
      clear hn0 h2 h3 hn hd
      go_enter Try.func22, Try.ntmps22
      go_wp2
      go_loop [5, 6, 7] (fun lo hi i => ∃ k : Nat, k ≤ 4 ∧ i = .int .i64 ((k : Int) + 1) ∧ lo = .int .i64 (pw k).1 ∧ hi = .int .i64 (pw k).2) (fun _ _ i => 6 - (intOf i).toNat)
      case atStart => exact ⟨0, by omega, rfl, rfl, rfl⟩
      case round =>
        obtain ⟨k, hk, rfl, rfl, rfl⟩ := hrel
        obtain rfl | rfl | rfl | rfl | rfl : k = 0 ∨ k = 1 ∨ k = 2 ∨ k = 3 ∨ k = 4 := by omega
        · simp only [pw]
          clear hk
          have hC : ((1 : Int) ≤ n) := by omega
          go_wp2
          go_round
          case rel => exact ⟨1, by omega, rfl, rfl, rfl⟩
          case measure => simp [intOf]
        · simp only [pw]
          clear hk
          have hC : ((4 : Int) ≤ n) := by omega
          go_wp2
          go_round
          case rel => exact ⟨2, by omega, rfl, rfl, rfl⟩
          case measure => simp [intOf]
        · simp only [pw]
          clear hk
          have hC : ((16 : Int) ≤ n) := by omega
          go_wp2
          go_round
          case rel => exact ⟨3, by omega, rfl, rfl, rfl⟩
          case measure => simp [intOf]
        · simp only [pw]
          clear hk
          have hC : ((64 : Int) ≤ n) := by omega
          go_wp2
          go_round
          case rel => exact ⟨4, by omega, rfl, rfl, rfl⟩
          case measure => simp [intOf]
        · simp only [pw]
          clear hk
          have hC : ((256 : Int) ≤ n) := by omega
          go_wp2
          go_ret
          exact ⟨rfl, rfl⟩

set_option maxRecDepth 10000 in
set_option maxHeartbeats 2000000 in
theorem refCompare (E : Env) (w : World) (A : Asn) (v1 v2 : Value) (l1 l2 : List Val) (hs : sat E w A) (h1 : E.vals v1 l1) (h2 : E.vals v2 l2) (f1 : fits l1) (f2 : fits l2) :
    Calls Try.prog 23 #[v1, v2] w (Ret fun v w' => v = .int .i64 (kcmp l1 l2) ∧ sat E w' A) := by
  refine ret_hide fun R hR => ?_
  have hR1 := fun (w' : World) (z : Int) (h' : sat E w' A) (h : Hid (kcmp l1 l2 = z)) => hR.out (.int .i64 z) w' ⟨by rw [h.out], h'⟩
  replace hR1 := Lib.hid hR1
  clear hR
  obtain ⟨hn1, a1, b1, o1, cap1, rfl, ha1, h1⟩ := h1
  obtain ⟨hn2, a2, b2, o2, cap2, rfl, ha2, h2⟩ := h2
  replace h1 := Lib.hid h1
  replace h2 := Lib.hid h2
  replace f1 := Lib.hid f1
  replace f2 := Lib.hid f2
  rcases ha1 with hl1 | rfl <;> rcases ha2 with hl2 | rfl
  all_goals
    go_enter Try.func23, Try.ntmps23
    go_wp2
    go_loopw [5, 6] (fun i c wr => ∃ k : Nat, k ≤ l1.length ∧ k ≤ l2.length ∧ i = .int .i64 k ∧ sat E wr A ∧ Hid (kcmp (l1.drop k) (l2.drop k) = kcmp l1 l2)) (fun i _ _ => l1.length - (intOf i).toNat)
    case atStart => exact ⟨0, Nat.zero_le _, Nat.zero_le _, rfl, hs, Lib.hid rfl⟩
    case round =>
      clear hs
      obtain ⟨k, hk1, hk2, rfl, hs, ht⟩ := hrel
      by_cases hlt1 : k < l1.length
      · first
          | exact no_lt hl1 hlt1
          | by_cases hlt2 : k < l2.length
            · first
                | exact no_lt hl2 hlt2
                | have hd := kcmp_drop l1 l2 k hlt1 hlt2
                  rw [ht.out] at hd
                  replace hd := Lib.hid hd
                  clear ht
                  have ft1 := f1.out _ (List.getElem_mem hlt1)
                  have ft2 := f2.out _ (List.getElem_mem hlt2)
                  go_wp2
                  refine wp_draw_lit [(0,3),(1,3),(2,3),(3,0),(4,3),(5,3),(6,3),(7,0),(8,2),(9,3)] (sat E · A) (by kernel_rfl) (by kernel_rfl) rfl hs.drew ?_
                  clear hs
                  iterate 3 (refine wpD_pure _ rfl rfl rfl ?_; apply Exists.intro; refine ⟨fun w' => ?_, ?_, ?_⟩; (go_wp2; exact ⟨rfl, rfl, rfl⟩); rfl)
                  (refine wpD_reads _ rfl rfl rfl ?_; apply Exists.intro; refine ⟨fun w' hK => ?_, ?_, ?_⟩; (obtain ⟨g0, g1, g2, g3, g4⟩ := sat.val hK (h1.out k hlt1); go_wp2; exact ⟨rfl, rfl, rfl⟩); rfl)
                  iterate 3 (refine wpD_pure _ rfl rfl rfl ?_; apply Exists.intro; refine ⟨fun w' => ?_, ?_, ?_⟩; (go_wp2; exact ⟨rfl, rfl, rfl⟩); rfl)
                  (refine wpD_reads _ rfl rfl rfl ?_; apply Exists.intro; refine ⟨fun w' hK => ?_, ?_, ?_⟩; (obtain ⟨g0, g1, g2, g3, g4⟩ := sat.val hK (h2.out k hlt2); go_wp2; exact ⟨rfl, rfl, rfl⟩); rfl)
                  refine wpD_does (by decide) rfl rfl (fun Nx hNx w' hK => ?_)
                  go_wp2_with fail
                  refine (refVal E A _ _ _ hK ft1 ft2).mono ?_
                  rintro e w3 ⟨rfl, hs3⟩
                  go_wp2_with fail
                  refine ⟨rfl, (sat E · A), hs3, fun h => (by cases h), hNx _ _ ?_⟩
                  clear hs3 hK hNx
                  refine wpD_move rfl rfl (.inr rfl) ?_
                  refine wpD_nil (fun w5 hs5 => ?_)
                  by_cases hz : vcmp l1[k] l2[k] = 0
                  · have ht3 : Hid (kcmp (l1.drop (k + 1)) (l2.drop (k + 1)) = kcmp l1 l2) := by have := hd.out; rw [if_pos hz] at this; exact this.symm
                    clear hd
                    go_wp2
                    go_roundw
                    case rel => exact ⟨k + 1, by omega, by omega, by go_num, hs5, ht3⟩
                    case measure => simp [intOf]; omega
                  · have ht3 : Hid (kcmp l1 l2 = vcmp l1[k] l2[k]) := by have := hd.out; rw [if_neg hz] at this; exact this
                    have hR' := hR1.out _ _ hs5 ht3
                    clear hd
                    go_wp2
                    try go_ret
                    exact hR'
            · have hz := Lib.hid (ht.out.symm.trans (kcmp_left l1 l2 k hlt1 (by omega)))
              have hl : l2.length < l1.length := by omega
              have hR' := hR1.out _ _ hs hz
              clear ht hz
              go_wp2
              try go_ret
              exact hR'
      · by_cases hlt2 : k < l2.length
        · have hz := Lib.hid (ht.out.symm.trans (kcmp_right l1 l2 k (by omega) hlt2))
          have hl : l1.length < l2.length := by omega
          have hR' := hR1.out _ _ hs hz
          clear ht hz
          go_wp2
          try go_ret
          exact hR'
        · have hz := Lib.hid (ht.out.symm.trans (kcmp_none l1 l2 k (by omega) (by omega)))
          have hl : ¬ l1.length < l2.length := by omega
          have hl' : ¬ l2.length < l1.length := by omega
          have hR' := hR1.out _ _ hs hz
          clear ht hz
          go_wp2
          try go_ret
          exact hR'
end Go.Proofs.Ytmibiaakppkmmaa
