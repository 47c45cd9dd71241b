/- Where an entry stands in a node. -/
import Derived.Test.YtmibiaakppkmmaaTree
import Derived.Test.YtmibiaakppkmmaaSearch
namespace Go.Proofs.Ytmibiaakppkmmaa
open Go.RowKit Go.Sep
set_option linter.unusedVariables false
set_option linter.unusedSimpArgs false

set_option maxHeartbeats 1000000 in
theorem place (E : Env) (w : World) (A : Asn) (p : Nat) (ve vk k : Value) (id : Int) (l : List Val) (es : List Ent) (hs : sat E w (nd p ve vk * (ents ve es * A))) (hg : Env.goods E es) (ht : E.vals k l) (hn : es.length ≤ 10000)
    (hc : rises (es.map fun e => ecmp e.kv (l, id))) :
    Calls Try.prog 46 #[ptr p, .agg #[k, .int .i64 id]] w (Ret fun r w' => r = .tuple #[.int .i64 (pos (es.map fun e => ecmp e.kv (l, id))), .bool (found (es.map fun e => ecmp e.kv (l, id)))] ∧ sat E w' (nd p ve vk * (ents ve es * A))) := by
  refine ret_hide fun R hR => ?_
  have hs2 := hs.alloc (.cells #[k, .int .i64 id] 35)
  unfold ptr
  go_enter Try.func46, Try.ntmps46
  go_wp2
  generalize w.alloc (.cells #[k, .int .i64 id] 35) = w1 at *
  generalize w.heap.size = n at *
  refine wp_draw_lit [(0,3),(1,3),(2,3),(3,0),(4,0),(5,2),(6,3),(7,3),(8,3),(9,3)] (fun w' => sat E w' (pts n (.cells #[k, .int .i64 id] 35 (0, 0)) * (nd p ve vk * (ents ve es * A)))) (by kernel_rfl) (by kernel_rfl) rfl hs2.drew ?_
  iterate 3 (refine wpD_pure _ rfl rfl rfl ?_; apply Exists.intro; refine ⟨fun w' => ?_, ?_, ?_⟩; (go_wp2; exact ⟨rfl, rfl, rfl⟩); rfl)
  iterate 2 (refine wpD_reads _ rfl rfl rfl ?_; apply Exists.intro; refine ⟨fun w' hK => ?_, ?_, ?_⟩; (obtain ⟨g0, g1, g2, g3, g4⟩ := nd_cells hK.drop; obtain ⟨f0, f1, f2, f3, f4⟩ := entFacts w' hK; go_wp2; exact ⟨rfl, rfl, rfl⟩); rfl)
  refine wpD_does (by decide) rfl rfl (fun Nx hNx w' hK => ?_)
  go_wp2_with fail
  refine (bsearch E _ _ _ _ _ _ _ (hK.to (show _ = ents ve es * (pts n (.cells #[k, .int .i64 id] 35 (0, 0)) * (nd p ve vk * A)) by ac_rfl)) hg ht hn hc).mono ?_
  rintro e w3 ⟨_, rfl, rfl, hs3⟩
  have hs4 := (hs3.to (show _ = pts n (.cells #[k, .int .i64 id] 35 (0, 0)) * (nd p ve vk * (ents ve es * A)) by ac_rfl)).drop
  generalize pos (es.map fun e => ecmp e.kv (l, id)) = i at *
  generalize found (es.map fun e => ecmp e.kv (l, id)) = fo at *
  go_wp2_with fail
  refine ⟨rfl, (fun x => sat E x _), hs4, fun h => (by cases h), hNx _ _ ?_⟩
  clear hs4 hs3 hK hNx
  iterate 4 (refine wpD_pure _ rfl rfl rfl ?_; apply Exists.intro; refine ⟨fun w' => ?_, ?_, ?_⟩; (go_wp2; exact ⟨rfl, rfl, rfl⟩); rfl)
  refine wpD_nil (fun w5 hK5 => ?_)
  have hR' := hR.out _ _ ⟨rfl, hK5⟩
  clear hR
  go_wp2
  try go_ret
  exact hR'

end Go.Proofs.Ytmibiaakppkmmaa
