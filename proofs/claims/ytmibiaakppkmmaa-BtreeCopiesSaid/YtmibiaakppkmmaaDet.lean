/- One world, two Envs: the same values. -/
import Derived.Test.YtmibiaakppkmmaaCalm
namespace Go.Proofs.Ytmibiaakppkmmaa
open Go.RowKit Go.Sep
set_option linter.unusedVariables false
set_option linter.unusedSimpArgs false

theorem val_det {a b : Val} (h0 : a.kind = b.kind) (h1 : a.n = b.n) (h2 : a.hi = b.hi) (h3 : a.t = b.t) : a = b := by
  cases a; cases b; simp_all

/-- one world, one slice: the same values -/
theorem vals_det {E E2 : Env} {W : World} {A A2 : Asn} {k : Value} {l l2 : List Val} (hs : sat E W A) (hs2 : sat E2 W A2) (h : E.vals k l) (h2 : E2.vals k l2) : l = l2 := by
  obtain ⟨_, a, b, off, cap, rfl, ha, hc⟩ := h
  obtain ⟨_, a', b', off', cap', hv, ha', hc'⟩ := h2
  injection hv with e1 e2 e3
  refine List.ext_getElem e2 fun i hi hi' => ?_
  rcases ha with hl | rfl
  · have := hl.out; subst this; simp at hi
  · rcases ha' with hl | rfl
    · have := hl.out; subst this; simp at hi'
    · injection e1 with e1
      injection e1 with e1 e4
      subst e1; subst e4
      obtain ⟨_, c0, c1, c2, c3⟩ := hs.val (hc i hi)
      obtain ⟨_, d0, d1, d2, d3⟩ := hs2.val (hc' i hi')
      rw [c0] at d0; rw [c1] at d1; rw [c2] at d2; rw [c3] at d3
      simp at d0 d1 d2 d3
      exact val_det d0 d1 d2 d3

/-- one world, one owned slice: the same entries -/
theorem ents_det {E E2 : Env} {W : World} {A A2 : Asn} {v : Value} {es es2 : List Ent} (hs : sat E W (ents v es * A)) (hs2 : sat E2 W (ents v es2 * A2)) (hg : Env.goods E es) (hg2 : Env.goods E2 es2) : es = es2 := by
  rcases sat.ents hs with ⟨rfl, rfl, _⟩ | ⟨g, cap, cur, rfl, c1, c2, c3, c4, hp⟩
  · rcases sat.ents hs2 with ⟨rfl, _, _⟩ | ⟨g, cap, cur, hv, _⟩
    · rfl
    · cases hv
  · rcases sat.ents hs2 with ⟨_, hv, _⟩ | ⟨g', cap', cur', hv, d1, d2, d3, d4, hp'⟩
    · cases hv
    · injection hv with e1 e2 e3
      injection e1 with e1
      injection e1 with e1
      subst e1
      refine List.ext_getElem e2 fun i hi hi' => ?_
      obtain ⟨_, h1, h2, _⟩ := ent_cell hp.block c4 i hi
      obtain ⟨_, h1', h2', _⟩ := ent_cell hp'.block d4 i hi'
      rw [h1] at h1'; rw [h2] at h2'
      simp at h1' h2'
      have hk := hg es[i] (List.getElem_mem hi)
      have hk2 := hg2 es2[i] (List.getElem_mem hi')
      rw [← h1'] at hk2
      have hl := vals_det hs hs2 hk hk2
      generalize es[i] = x at *
      generalize es2[i] = y at *
      obtain ⟨a, b, c⟩ := x
      obtain ⟨a', b', c'⟩ := y
      simp at h1' h2' hl
      subst h1'; subst h2'; subst hl
      rfl

end Go.Proofs.Ytmibiaakppkmmaa
