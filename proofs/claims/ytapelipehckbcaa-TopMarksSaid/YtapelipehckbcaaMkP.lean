/- Cells with marks: the exported function. -/
import Derived.Test.YtapelipehckbcaaMkO
set_option linter.unusedVariables false
set_option linter.unusedSimpArgs false
set_option linter.unnecessarySimpa false
namespace Go.AV
def known7 : List Act56 := [⟨0, 1, 1, 5⟩, ⟨4, 0, 0, 0⟩, ⟨0, 1, 1, 7⟩, ⟨0, 2, 3, 9⟩, ⟨4, 0, 0, 0⟩, ⟨0, 1, 1, 5⟩, ⟨7, 0, 0, 0⟩]
theorem known7_ok : ∀ a ∈ known7, a.ok := by
  intro a ha
  simp [known7] at ha
  rcases ha with rfl | rfl | rfl | rfl | rfl | rfl | rfl <;> simp [Act56.ok]
end Go.AV
namespace Go.Proofs
open Go.AV
variable {V V₀ : View}
theorem mk_known (V : View) : ACalls Try.prog 7 [.agg [.v (.int .u8 2), .v (.int .u8 3), .v (.int .u8 0)], .tree 4 (actT known7)] V (One (.tuple [iv 1, bv true]) V) :=
  mk_marked (p := fun o => [2, 3, 0].getD o 0) (l := known7) (fun o => by
    match o with
    | 0 => decide
    | 1 => decide
    | 2 => decide
    | n + 3 => simp) known7_ok V
theorem mk_top {p : Nat → Nat} {l : List Act56} (hp : ∀ o, p o < 256) (hl : ∀ a ∈ l, a.ok) (V : View) : ACalls Try.prog 4 [.agg [u8v (p 0), u8v (p 1), u8v (p 2)], .tree 4 (actT l)] V (One (bv true) V) := by
  refine a_fn (fn := Try.f4) Try.func4 rfl ?_ rfl
  refine a_seq (a_region ?_)
  refine a_vp rfl (s_box (ev_t rfl) rfl) fun xv Vv hx => ?_
  obtain ⟨bp, nbp, rfl, rfl⟩ := hx
  have vbp : V bp = none := by simpa [View.set, ] using nbp
  refine a_v rfl (s_assign ev_c) ?_
  refine a_nil ?_
  refine a_seq (a_region ?_)
  refine a_v rfl (s_build Try.z34 Try.pl34 (.cons ev_c (.cons ev_c (.cons ev_c (.cons ev_c .nil)))) rfl) ?_
  refine a_v rfl (s_build Try.z34 Try.pl34 (.cons ev_c (.cons ev_c (.cons ev_c (.cons ev_c .nil)))) rfl) ?_
  refine a_v rfl (s_build Try.z34 Try.pl34 (.cons ev_c (.cons ev_c (.cons ev_c (.cons ev_c .nil)))) rfl) ?_
  refine a_v rfl (s_build Try.z34 Try.pl34 (.cons ev_c (.cons ev_c (.cons ev_c (.cons ev_c .nil)))) rfl) ?_
  refine a_v rfl (s_build Try.z34 Try.pl34 (.cons ev_c (.cons ev_c (.cons ev_c (.cons ev_c .nil)))) rfl) ?_
  refine a_v rfl (s_build Try.z34 Try.pl34 (.cons ev_c (.cons ev_c (.cons ev_c (.cons ev_c .nil)))) rfl) ?_
  refine a_v rfl (s_build Try.z34 Try.pl34 (.cons ev_c (.cons ev_c (.cons ev_c (.cons ev_c .nil)))) rfl) ?_
  refine a_v rfl (s_litx Try.sl32 Try.z34 rfl rfl (.cons (ev_t rfl) (.cons (ev_t rfl) (.cons (ev_t rfl) (.cons (ev_t rfl) (.cons (ev_t rfl) (.cons (ev_t rfl) (.cons (ev_t rfl) .nil))))))) rfl rfl rfl) ?_
  refine a_v rfl (s_assign (ev_t rfl)) ?_
  refine a_nil ?_
  refine a_seq (a_seq (a_region ?_))
  refine a_v rfl (s_builda Try.z31 Try.ar31 (.cons ev_c (.cons ev_c (.cons ev_c .nil))) rfl) ?_
  refine a_v rfl (s_move (ev_t rfl)) ?_
  refine a_v rfl (s_call Try.okM7 ev_f (.cons (ev_t rfl) (.cons (ev_t rfl) .nil)) (mk_known _)) ?_
  refine a_v rfl (s_move (ev_t rfl)) ?_
  refine a_v rfl (s_extract (ev_t rfl) rfl) ?_
  refine a_v rfl (s_extract (ev_t rfl) rfl) ?_
  refine a_v rfl (s_assign (ev_t rfl)) ?_
  refine a_v rfl (s_assign (ev_t rfl)) ?_
  refine a_nil ?_
  refine a_seq (a_region ?_)
  refine a_v rfl (s_move (ev_t rfl)) ?_
  refine a_v rfl (s_cmp (ev_t rfl) ev_c rfl) ?_
  refine a_v rfl (s_move (ev_t rfl)) ?_
  refine a_vg (gk rfl rfl (ev_t rfl) rfl) rfl (s_move (ev_t rfl)) ?_
  refine a_vg (gk rfl rfl (ev_t rfl) rfl) rfl (s_not (ev_t rfl)) ?_
  refine a_v rfl (s_pick (x := .v (.bool _)) (ev_t rfl) (fun hx => (by exact absurd hx (by first | (simp; done) | (simp []; done) | (simp [*]; done)))) (fun _ => (ev_t rfl))) ?_
  refine a_nil ?_
  refine a_cond (ev_t rfl) (fun hc => ?_) (fun hc => a_skip ?_)
  · cases hc
  repeat first | refine thenA_x ?_ | refine blockA_hit ?_ | refine blockA_x (by decide) ?_
  refine a_seq (a_region ?_)
  refine a_v rfl (s_load Try.sh31 (ev_t rfl) (by simp [View.set, View.drop, vbp] <;> first | exact ⟨rfl, rfl⟩ | exact rfl) rfl) ?_
  refine a_v rfl (s_move (ev_t rfl)) ?_
  refine a_v rfl (s_call Try.okM7 ev_f (.cons (ev_t rfl) (.cons (ev_t rfl) .nil)) (mk_marked hp hl _)) ?_
  refine a_v rfl (s_move (ev_t rfl)) ?_
  refine a_v rfl (s_extract (ev_t rfl) rfl) ?_
  refine a_v rfl (s_extract (ev_t rfl) rfl) ?_
  refine a_v rfl (s_assign (ev_t rfl)) ?_
  refine a_v rfl (s_assign (ev_t rfl)) ?_
  refine a_nil ?_
  refine a_seq (a_region ?_)
  refine a_v rfl (s_move (ev_t rfl)) ?_
  refine a_v rfl (s_assign (ev_t rfl)) ?_
  refine a_nil ?_
  refine a_ret ?_
  exact ⟨[_], V, ⟨_, _, rfl, ev_t rfl, rfl⟩, View.le_self_set nbp, rfl, rfl⟩
#print axioms mk_top
end Go.Proofs
