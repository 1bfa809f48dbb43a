/-
  The walks through op.Check.
-/
import Derived.Test.YtnkcgakmajdmcaaPath
import Derived.Test.YtnkcgakmajdmcaaEq
namespace Go.Proofs.Ytnkcgakmajdmcaa
open Go.RowKit

set_option maxRecDepth 100000 in
set_option maxHeartbeats 400000 in
theorem check_any (o : Oper) (w : World) :
    Calls Try.prog 54 #[.agg #[.int .i64 o.kind, .int .i64 o.p.a, .int .i64 o.p.b, .int .i64 o.p.c, .int .i64 o.p.d, .int .i64 o.p.k, .int .i64 o.v]] w
      fun e w' => e = .returned (.int .i64 (checkN o)) ∧ Below w.heap.size w w' := by
  go_enter Try.func54, Try.ntmps54
  go_wp2_with (go_at_call 86; refine (may_any _ _).mono ?_; rintro e w1 ⟨rfl, hb⟩; obtain ⟨hc, hf, hz⟩ := bcell hb; (try simp only [World.size_drew, World.cell?_drew, World.frozen?_drew] at hc hf hz))
  all_goals go_ret
  all_goals refine ⟨?_, ?_⟩
  all_goals first
    | exact Below.one _ _
    | exact Below.after1 (by assumption)
    | (refine ret_int (Eq.symm ?_); show checkN o = _; simp only [eqP_iff, beq_iff_eq, beq_eq_false_iff_ne] at *; simp [checkN, okOp, Path.zero, *]; done)
    | (refine ret_int (Eq.symm ?_); show checkN o = _; simp only [eqP_iff, beq_iff_eq, beq_eq_false_iff_ne] at *; simp [checkN, okOp, Path.zero, *]; omega)
    | trace_state
end Go.Proofs.Ytnkcgakmajdmcaa
