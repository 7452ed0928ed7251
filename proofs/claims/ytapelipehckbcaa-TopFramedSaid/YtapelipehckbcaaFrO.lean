/- Frames and records: the whole. -/
import Derived.Test.YtapelipehckbcaaFrN
set_option linter.unusedVariables false
set_option linter.unusedSimpArgs false
namespace Go.AV
def known56 : List (List Rec) := [[(0, [7, 8]), (1, [])], []]
theorem known_len : (frs (bodies known56)).length = 8 := by decide
theorem form300 : form 300 = [248, 1, 44] := by rw [form_big (by omega), digs2 (by omega) (by omega)]; rfl
end Go.AV
namespace Go.Proofs
open Go.AV
theorem fr_top {l : List (List Rec)} {pieces : List UInt8} {ns : List Nat} {wrong : Bool} (hp : pieces.length ≤ 140737488355328) (hx : ∀ x ∈ ns, x < 18446744073709551616) (V : View) :
    ACalls Try.prog 5 [.tree 1 (recsT l), .tree 1 (byT pieces), .tree 1 (uvs ns), bv wrong] V (One (bv true) V) := by
  have hkn := known_len
  have hsl : (List.take (min ns.length 30) (uvs ns)).drop 0 = uvs (ns.take (min ns.length 30)) := by simp [uvs, List.map_take]
  refine a_fn (fn := Try.f5) Try.func5 rfl ?_ rfl
  refine a_seq (a_region ?_)
  refine a_v rfl (s_assign ev_c) ?_
  refine a_nil ?_
  refine a_seq (a_region ?_)
  refine a_v rfl (s_lit (els := byT [7, 8]) Try.sl39 Try.z5 rfl rfl (.cons ev_c (.cons ev_c .nil)) rfl rfl rfl) ?_
  refine a_v rfl (s_build (cs := [.v (.int .u8 0), .tree 1 (byT [7, 8])]) Try.z42 Try.pl42 (.cons ev_c (.cons (ev_t rfl) .nil)) rfl) ?_
  refine a_v rfl (s_build (cs := [.v (.int .u8 1), .v (.slice none 0 0)]) Try.z42 Try.pl42 (.cons ev_c .nil) rfl) ?_
  refine a_v rfl (s_lit (els := recT [(0, [7, 8]), (1, [])]) Try.sl43 Try.z42 rfl rfl (.cons (ev_t rfl) (.cons (ev_aggnil (sz := 1) (ev_t rfl)) .nil)) rfl rfl rfl) ?_
  refine a_v rfl (s_lit (els := recsT known56) Try.sl38 Try.z43 rfl rfl (.cons (ev_t rfl) (.cons (ev_nil (sz := 2) ev_c) .nil)) rfl rfl rfl) ?_
  refine a_v rfl (s_assign (ev_t rfl)) ?_
  refine a_nil ?_
  refine a_seq (a_seq (a_region ?_))
  refine a_v rfl (s_move (ev_t rfl)) ?_
  refine a_v rfl (s_lit (els := byT [3, 0, 1]) Try.sl39 Try.z5 rfl rfl (.cons ev_c (.cons ev_c (.cons ev_c .nil))) rfl rfl rfl) ?_
  refine a_v rfl (s_lit (els := uvs [5, 255, 0, 18446744073709551615]) Try.sl40 Try.z45 rfl rfl (.cons ev_c (.cons ev_c (.cons ev_c (.cons ev_c .nil)))) rfl rfl rfl) ?_
  refine a_v rfl (s_call Try.okF8 ev_f (.cons (ev_t rfl) (.cons (ev_t rfl) (.cons (ev_t rfl) (.cons ev_c .nil)))) (fr_framed (l := known56) (by decide) (by decide) (by decide) _)) ?_
  refine a_v rfl (s_move (ev_t rfl)) ?_
  refine a_v rfl (s_extract (ev_t rfl) rfl) ?_
  refine a_v rfl (s_extract (ev_t rfl) rfl) ?_
  refine a_v rfl (s_assign (ev_t rfl)) ?_
  refine a_v rfl (s_assign (ev_t rfl)) ?_
  refine a_nil ?_
  rw [known_len]
  refine a_seq (a_region ?_)
  refine a_v rfl (s_move (ev_t rfl)) ?_
  refine a_v rfl (s_cmp (ev_t rfl) ev_c rfl) ?_
  refine a_v rfl (s_move (ev_t rfl)) ?_
  refine a_f rfl (f_guard rfl (gd_b rfl (ev_t rfl)) fun h2 => s_move (ev_t rfl)) ?_
  refine a_f rfl (f_guard rfl (gd_b rfl (ev_t rfl)) fun h2 => s_not (ev_cond (ev_t rfl) h2)) ?_
  refine a_v rfl (s_pickor (ev_t rfl) (ev_t rfl)) ?_
  refine a_v rfl (s_move (ev_t rfl)) ?_
  refine a_f rfl (f_guard rfl (gd_b rfl (ev_t rfl)) fun h6 => s_call Try.okF9 ev_f (.cons ev_c .nil) (fr_formT (x := 300) (by omega) _)) ?_
  refine a_f rfl (f_guard rfl (gd_b rfl (ev_t rfl)) fun h6 => s_b2s Try.us39 Try.ui5 Try.ustr9 (ev_cond (ev_t rfl) h6)) ?_
  refine a_f rfl (f_guard rfl (gd_b rfl (ev_t rfl)) fun h6 => s_streq (ev_cond (ev_t rfl) h6) ev_c (.inr ⟨rfl, rfl⟩)) ?_
  refine a_v rfl (s_pickor (ev_t rfl) (ev_t rfl)) ?_
  refine a_nil ?_
  refine a_cond (ev_t rfl) (fun hc => ?_) (fun hc => a_skip ?_)
  · exfalso; rw [form300] at hc; revert hc; decide
  refine a_seq (a_region ?_)
  refine a_v rfl (s_move (ev_t rfl)) ?_
  refine a_v rfl (s_move (ev_t rfl)) ?_
  refine a_v rfl (s_move (ev_t rfl)) ?_
  refine a_v rfl (s_move (ev_t rfl)) ?_
  refine a_v rfl (s_lent Try.us40 (ev_t rfl)) ?_
  refine a_v rfl (s_min (ev_t rfl) ev_c) ?_
  refine a_v rfl (OpS.cast (congrArg (fun l => AVal.tree 1 l) hsl) (s_slicet Try.sl40 (ev_t rfl) rfl (bnd_t (ev_t rfl) (n := min ns.length 30) (by rw [uvs_len]; omega)) (Nat.zero_le _) (by rw [uvs_len]; omega))) ?_
  refine a_v rfl (s_move (ev_t rfl)) ?_
  refine a_v rfl (s_call Try.okF8 ev_f (.cons (ev_t rfl) (.cons (ev_t rfl) (.cons (ev_t rfl) (.cons (ev_t rfl) .nil)))) (fr_framed (l := l) hp (by simp; omega) (fun x h => hx x (List.mem_of_mem_take h)) _)) ?_
  refine a_v rfl (s_move (ev_t rfl)) ?_
  refine a_v rfl (s_extract (ev_t rfl) rfl) ?_
  refine a_v rfl (s_extract (ev_t rfl) rfl) ?_
  refine a_v rfl (s_assign (ev_t rfl)) ?_
  refine a_v rfl (s_assign (ev_t rfl)) ?_
  refine a_nil ?_
  refine a_seq (a_region ?_)
  refine a_v rfl (s_move (ev_t rfl)) ?_
  refine a_v rfl (s_assign (ev_t rfl)) ?_
  refine a_nil ?_
  refine a_ret ?_
  exact ⟨[_], V, ⟨_, _, rfl, ev_t rfl, rfl⟩, View.le_refl _, rfl, rfl⟩
#print axioms fr_top
end Go.Proofs
