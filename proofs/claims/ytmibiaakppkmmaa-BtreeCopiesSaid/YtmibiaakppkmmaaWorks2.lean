/- The examples, the walk. -/
import Derived.Test.YtmibiaakppkmmaaWorks
namespace Go.Proofs.Ytmibiaakppkmmaa
open Go.RowKit Go.Sep
set_option linter.unusedVariables false
set_option linter.unusedSimpArgs false

theorem small1 : Small m1 := small_nums [(1, 5)] (by decide)
theorem small3 : Small m3 := small_nums [(1, 5), (1, 9), (2, 1)] (by decide)
theorem vals_nil (E : Env) : E.vals (.slice none 0 0) [] := ⟨by decide, none, 0, 0, 0, rfl, .inl (Lib.hid rfl), fun i hi => absurd hi (Nat.not_lt_zero _)⟩

set_option maxRecDepth 100000 in
set_option maxHeartbeats 4000000 in
theorem works (E : Env) (w : World) (A : Asn) (hs : sat E w A) : Calls Try.prog 7 #[] w (Ret fun v w' => v = .bool true ∧ sat E w' A) := by
  refine ret_hide fun R hR => ?_
  have hR1 := fun (w' : World) (h' : sat E w' A) => hR.out _ w' ⟨rfl, h'⟩
  replace hR1 := Lib.hid hR1
  clear hR
  go_enter Try.func7, Try.ntmps7
  go_wp2_with fail
  refine (newE E w A hs).mono ?_
  rintro e w1 ⟨_, rfl, r, rfl, hT⟩
  unfold ptr
  clear hs
  go_wp2_with fail
  refine (oneE E _ _ r _ 1 hT).mono ?_
  rintro e w2 ⟨_, rfl, a2, c2, E2, rfl, hE2, hT2, hv2⟩
  clear hT
  go_wp2_with fail
  refine (putE E2 _ _ r [] _ _ 5 hT2 hv2 (by decide) (num_len _)).mono ?_
  rintro e w3 ⟨_, rfl, hb, E3, hE3, hT3⟩
  obtain rfl := hb.trans (congrArg Value.bool (show _ = true by decide))
  replace hT3 : TreeE E3 w3 A r m1 := hT3
  clear hT2 hv2 hb
  go_wp2_with fail
  refine (oneE E3 _ _ r _ 1 hT3).mono ?_
  rintro e w4 ⟨_, rfl, a4, c4, E4, rfl, hE4, hT4, hv4⟩
  clear hT3
  go_wp2_with fail
  refine (putE E4 _ _ r m1 _ _ 5 hT4 hv4 (by decide) (num_len _)).mono ?_
  rintro e w5 ⟨_, rfl, hb, E5, hE5, hT5⟩
  obtain rfl := hb.trans (congrArg Value.bool (show _ = false by decide))
  replace hT5 : TreeE E5 w5 A r m1 := hT5
  clear hT4 hv4 hb
  go_wp2_with fail
  refine (oneE E5 _ _ r _ 1 hT5).mono ?_
  rintro e w6 ⟨_, rfl, a6, c6, E6, rfl, hE6, hT6, hv6⟩
  clear hT5
  go_wp2_with fail
  refine (findE E6 _ _ r m1 a6 c6 (num 1) hT6 hv6 small1).mono ?_
  rintro e w7 ⟨v7, rfl, E7, hE7, hT7, hi7⟩
  replace hi7 : Env.ints E7 v7 [5] := hi7
  clear hT6 hv6
  obtain ⟨E8, hE8, hT8, hi8⟩ := newIntsE [5] hT7 (by decide)
  simp only [List.map_cons, List.map_nil] at hT8
  clear hT7
  go_wp2_with fail
  refine (sameIntsE E8 _ _ r m1 _ _ _ _ hT8 (hi7.le hE8) hi8).mono ?_
  rintro e w9 ⟨_, rfl, rfl, hT9⟩
  clear hT8 hi7 hi8
  go_wp2_with fail
  refine (heightE E8 _ _ r m1 hT9 (by decide)).mono ?_
  rintro e w10 ⟨_, rfl, ⟨h, rfl, hh⟩, rfl⟩
  obtain rfl := high_one hh (by decide) (by decide)
  clear hh
  go_wp2_with fail
  refine (oneE E8 _ _ r _ 2 hT9).mono ?_
  rintro e w11 ⟨_, rfl, a11, c11, E11, rfl, hE11, hT11, hv11⟩
  clear hT9
  go_wp2_with fail
  refine (putE E11 _ _ r m1 _ _ 1 hT11 hv11 (by decide) (num_len _)).mono ?_
  rintro e w12 ⟨_, rfl, hb, E12, hE12, hT12⟩
  obtain rfl := hb.trans (congrArg Value.bool (show _ = true by decide))
  replace hT12 : TreeE E12 w12 A r m2 := hT12
  clear hT11 hv11 hb
  go_wp2_with fail
  refine (oneE E12 _ _ r _ 1 hT12).mono ?_
  rintro e w13 ⟨_, rfl, a13, c13, E13, rfl, hE13, hT13, hv13⟩
  clear hT12
  go_wp2_with fail
  refine (putE E13 _ _ r m2 _ _ 9 hT13 hv13 (by decide) (num_len _)).mono ?_
  rintro e w14 ⟨_, rfl, hb, E14, hE14, hT14⟩
  obtain rfl := hb.trans (congrArg Value.bool (show _ = true by decide))
  replace hT14 : TreeE E14 w14 A r m3 := hT14
  clear hT13 hv13 hb
  go_wp2_with fail
  refine (walkE E14 _ _ r m3 _ _ _ [] hT14 (.inl ⟨rfl, rfl⟩) (vals_nil _) small3).mono ?_
  rintro e w15 ⟨v15, rfl, E15, es15, hE15, hT15, hi15, hk15⟩
  replace hk15 : kvs es15 = [(1, 5), (1, 9), (2, 1)].map fun (p : Int × Int) => (num p.1, p.2) := hk15.trans (by decide)
  replace hk15 := Lib.hid hk15
  clear hT14
  obtain ⟨E16, hE16, hT16, hi16⟩ := newIntsE [1, 5, 1, 9, 2, 1] hT15 (by decide)
  simp only [List.map_cons, List.map_nil] at hT16
  clear hT15
  go_wp2_with fail
  refine (isTE E16 _ _ r m3 _ _ es15 _ hT16 (hi15.le hE16) hk15.out hi16).mono ?_
  rintro e w17 ⟨_, rfl, rfl, hT17⟩
  clear hT16 hi15 hi16 hk15
  go_wp2_with fail
  refine (oneE E16 _ _ r _ 1 hT17).mono ?_
  rintro e w18 ⟨_, rfl, a18, c18, E18, rfl, hE18, hT18, hv18⟩
  clear hT17
  go_wp2_with fail
  refine (oneE E18 _ _ r _ 2 hT18).mono ?_
  rintro e w19 ⟨_, rfl, a19, c19, E19, rfl, hE19, hT19, hv19⟩
  clear hT18
  go_wp2_with fail
  refine (walkE E19 _ _ r m3 _ _ _ (num 2) hT19 (.inr ⟨_, _, _, _, rfl, hv18.le hE19, rfl⟩) hv19 small3).mono ?_
  rintro e w20 ⟨v20, rfl, E20, es20, hE20, hT20, hi20, hk20⟩
  replace hk20 : kvs es20 = [(1, 5), (1, 9)].map fun (p : Int × Int) => (num p.1, p.2) := hk20.trans (by decide)
  replace hk20 := Lib.hid hk20
  clear hT19 hv18 hv19
  obtain ⟨E21, hE21, hT21, hi21⟩ := newIntsE [1, 5, 1, 9] hT20 (by decide)
  simp only [List.map_cons, List.map_nil] at hT21
  clear hT20
  go_wp2_with fail
  refine (isTE E21 _ _ r m3 _ _ es20 _ hT21 (hi20.le hE21) hk20.out hi21).mono ?_
  rintro e w22 ⟨_, rfl, rfl, hT22⟩
  clear hT21 hi20 hi21 hk20
  go_wp2_with fail
  refine (lenE E21 _ _ r m3 hT22).mono ?_
  rintro e w23 ⟨_, rfl, rfl, rfl⟩
  have hR' := hR1.out _ (hT22.sat.le ((((((((((((hE2.trans hE3).trans hE4).trans hE5).trans hE6).trans hE7).trans hE8).trans hE11).trans hE12).trans hE13).trans hE14).trans hE15).trans hE16 |>.trans hE18 |>.trans hE19 |>.trans hE20 |>.trans hE21))
  clear hR1
  go_wp2
  try go_ret
  exact hR'
end Go.Proofs.Ytmibiaakppkmmaa
