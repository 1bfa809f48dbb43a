/-
  How the machine compares values of [4]int and api.Path.
-/
import Derived.Test.YtnkcgakmajdmcaaProg
import Derived.Test.YtnkcgakmajdmcaaData
import Derived.WalkLawsBesides
import Derived.WalkSpells
namespace Go.Proofs.Ytnkcgakmajdmcaa
open Go.RowKit

set_option maxRecDepth 100000 in
theorem run_eq4 (D : Nat) (a b c d a' b' c' d' : Int) (w : World) :
    (Op.equalIn (D + 2) 46 (.agg #[.int .i64 a, .int .i64 b, .int .i64 c, .int .i64 d]) (.agg #[.int .i64 a', .int .i64 b', .int .i64 c', .int .i64 d'])).run Try.prog w
      = .ok (a == a' && b == b' && c == c' && d == d') w := by
  have hs : ∀ wx, (sizeOf 3).run Try.prog wx = .ok 1 wx := fun wx => by kernel_rfl
  have p0 : ∀ (x y z u : Value) wx, (part 3 #[x, y, z, u] 0).run Try.prog wx = .ok x wx := fun x y z u wx => by kernel_rfl
  have p1 : ∀ (x y z u : Value) wx, (part 3 #[x, y, z, u] 1).run Try.prog wx = .ok y wx := fun x y z u wx => by kernel_rfl
  have p2 : ∀ (x y z u : Value) wx, (part 3 #[x, y, z, u] 2).run Try.prog wx = .ok z wx := fun x y z u wx => by kernel_rfl
  have p3 : ∀ (x y z u : Value) wx, (part 3 #[x, y, z, u] 3).run Try.prog wx = .ok u wx := fun x y z u wx => by kernel_rfl
  have h3 : Try.prog.underlying 3 = some (.int .i64) := Try.underlying3
  have hi := fun (x y : Int) wx => run_equalIn_int (P := Try.prog) wx D 3 .i64 .i64 x y h3
  have hr : List.range' 0 4 1 = [0, 1, 2, 3] := rfl
  rw [Op.equalIn]
  simp only [Sem.run_bind, run_underlying Try.underlying46, Result.andThen_ok, hs, Std.Legacy.Range.forIn_eq_forIn_range', Std.Legacy.Range.size]
  have e4 : (4 - 0 + 1 - 1) / 1 = 4 := rfl
  rw [e4, hr]
  simp only [List.forIn_cons, List.forIn_nil, Sem.run_bind, Nat.reduceMul, p0, p1, p2, p3, Result.andThen_ok, hi]
  cases g0 : (a == a') <;> cases g1 : (b == b') <;> cases g2 : (c == c') <;> cases g3 : (d == d') <;>
    simp only [Sem.run_bind, p0, p1, p2, p3, hi, g0, g1, g2, g3, Result.andThen_ok, Bool.and_true, Bool.and_false, Bool.not_true, Bool.not_false, if_true, Bool.false_eq_true, if_false, Sem.run_pure]

def eqO (p q : Oper) : Bool := decide (p = q)
def eqP (p q : Path) : Bool := decide (p = q)
theorem eqP_iff {p q : Path} : eqP p q = true ↔ p = q := by simp [eqP]
theorem eqP_refl (p : Path) : eqP p p = true := by simp [eqP]

set_option maxRecDepth 100000 in
theorem run_eqPath (D : Nat) (p q : Path) (w : World) :
    (Op.equalIn (D + 3) 48 (.agg #[.int .i64 p.a, .int .i64 p.b, .int .i64 p.c, .int .i64 p.d, .int .i64 p.k]) (.agg #[.int .i64 q.a, .int .i64 q.b, .int .i64 q.c, .int .i64 q.d, .int .i64 q.k])).run Try.prog w
      = .ok (eqP p q) w := by
  have hf : Try.prog.underlying 48 = some (.struct (Try.prog.fieldsOf 48)) := by kernel_rfl
  have hp : Try.prog.stoodInHeld 48 = false := by kernel_rfl
  rw [run_equalIn_fields w (D + 2) _ _ _ [(46, 0), (3, 4)] hf hp (by kernel_rfl) (by kernel_rfl)]
  have hx : eqP p q = ((p.a == q.a && p.b == q.b && p.c == q.c && p.d == q.d) && (p.k == q.k && true)) := by
    rcases p with ⟨a, b, c, d, k⟩; rcases q with ⟨a', b', c', d', k'⟩
    rw [Bool.eq_iff_iff]; simp [eqP, and_assoc]
  rw [hx]
  exact run_eqF_cons (by kernel_rfl : _ = Result.ok (Value.agg #[.int .i64 p.a, .int .i64 p.b, .int .i64 p.c, .int .i64 p.d]) w) (by kernel_rfl : _ = Result.ok (Value.agg #[.int .i64 q.a, .int .i64 q.b, .int .i64 q.c, .int .i64 q.d]) w) (run_eq4 D _ _ _ _ _ _ _ _ w)
    (run_eqF_cons (by kernel_rfl : _ = Result.ok (Value.int .i64 p.k) w) (by kernel_rfl : _ = Result.ok (Value.int .i64 q.k) w) (run_equalIn_int (P := Try.prog) w (D + 1) 3 .i64 .i64 p.k q.k Try.underlying3) run_eqF_nil)

theorem path_eta (p : Path) : Path.mk p.a p.b p.c p.d p.k = p := rfl
theorem run_eqPath' (D : Nat) (a b c d k a' b' c' d' k' : Int) (w : World) :
    (Op.equalIn (D + 3) 48 (.agg #[.int .i64 a, .int .i64 b, .int .i64 c, .int .i64 d, .int .i64 k]) (.agg #[.int .i64 a', .int .i64 b', .int .i64 c', .int .i64 d', .int .i64 k'])).run Try.prog w
      = .ok (eqP ⟨a, b, c, d, k⟩ ⟨a', b', c', d', k'⟩) w := run_eqPath D ⟨a, b, c, d, k⟩ ⟨a', b', c', d', k'⟩ w
attribute [go_sem] path_eta
attribute [go_sem 5000] run_eqPath'

set_option maxRecDepth 100000 in
theorem run_eqCfg (D : Nat) (c0 c1 c2 c3 c4 c5 c6 c7 c8 d0 d1 d2 d3 d4 d5 d6 d7 d8 : Int) (w : World) :
    (Op.equalIn (D + 2) 23 (.agg #[.int .i64 c0, .int .i64 c1, .int .i64 c2, .int .i64 c3, .int .i64 c4, .int .i64 c5, .int .i64 c6, .int .i64 c7, .int .i64 c8]) (.agg #[.int .i64 d0, .int .i64 d1, .int .i64 d2, .int .i64 d3, .int .i64 d4, .int .i64 d5, .int .i64 d6, .int .i64 d7, .int .i64 d8])).run Try.prog w
      = .ok (eqC ⟨c0, c1, c2, c3, c4, c5, c6, c7, c8⟩ ⟨d0, d1, d2, d3, d4, d5, d6, d7, d8⟩) w := by
  have hf : Try.prog.underlying 23 = some (.struct (Try.prog.fieldsOf 23)) := by kernel_rfl
  have hp : Try.prog.stoodInHeld 23 = false := by kernel_rfl
  rw [run_equalIn_fields w (D + 1) _ _ _ [(3, 0), (3, 1), (3, 2), (3, 3), (3, 4), (3, 5), (2, 6), (3, 7), (2, 8)] hf hp (by kernel_rfl) (by kernel_rfl)]
  have hx : eqC ⟨c0, c1, c2, c3, c4, c5, c6, c7, c8⟩ ⟨d0, d1, d2, d3, d4, d5, d6, d7, d8⟩ = ((c0 == d0) && ((c1 == d1) && ((c2 == d2) && ((c3 == d3) && ((c4 == d4) && ((c5 == d5) && ((c6 == d6) && ((c7 == d7) && ((c8 == d8) && true))))))))) := by
    rw [Bool.eq_iff_iff]; simp [eqC]
  rw [hx]
  have hi := fun (x y : Int) => run_equalIn_int (P := Try.prog) w D 3 .i64 .i64 x y Try.underlying3
  have hj := fun (x y : Int) => run_equalIn_int (P := Try.prog) w D 2 .i64 .i64 x y Try.underlying2
  exact run_eqF_cons (by kernel_rfl : _ = Result.ok (Value.int .i64 c0) w) (by kernel_rfl : _ = Result.ok (Value.int .i64 d0) w) (hi _ _)
    (run_eqF_cons (by kernel_rfl : _ = Result.ok (Value.int .i64 c1) w) (by kernel_rfl : _ = Result.ok (Value.int .i64 d1) w) (hi _ _)
    (run_eqF_cons (by kernel_rfl : _ = Result.ok (Value.int .i64 c2) w) (by kernel_rfl : _ = Result.ok (Value.int .i64 d2) w) (hi _ _)
    (run_eqF_cons (by kernel_rfl : _ = Result.ok (Value.int .i64 c3) w) (by kernel_rfl : _ = Result.ok (Value.int .i64 d3) w) (hi _ _)
    (run_eqF_cons (by kernel_rfl : _ = Result.ok (Value.int .i64 c4) w) (by kernel_rfl : _ = Result.ok (Value.int .i64 d4) w) (hi _ _)
    (run_eqF_cons (by kernel_rfl : _ = Result.ok (Value.int .i64 c5) w) (by kernel_rfl : _ = Result.ok (Value.int .i64 d5) w) (hi _ _)
    (run_eqF_cons (by kernel_rfl : _ = Result.ok (Value.int .i64 c6) w) (by kernel_rfl : _ = Result.ok (Value.int .i64 d6) w) (hj _ _)
    (run_eqF_cons (by kernel_rfl : _ = Result.ok (Value.int .i64 c7) w) (by kernel_rfl : _ = Result.ok (Value.int .i64 d7) w) (hi _ _)
    (run_eqF_cons (by kernel_rfl : _ = Result.ok (Value.int .i64 c8) w) (by kernel_rfl : _ = Result.ok (Value.int .i64 d8) w) (hj _ _) run_eqF_nil))))))))
theorem cfg_eta (c : Cfg) : Cfg.mk c.cl c.po c.vi c.he c.re c.la c.ti c.gr c.ck = c := rfl
attribute [go_sem] cfg_eta
attribute [go_sem 5000] run_eqCfg

set_option maxRecDepth 100000 in
theorem run_eqOper (D : Nat) (x a b c d k v x' a' b' c' d' k' v' : Int) (w : World) :
    (Op.equalIn (D + 4) 50 (.agg #[.int .i64 x, .int .i64 a, .int .i64 b, .int .i64 c, .int .i64 d, .int .i64 k, .int .i64 v]) (.agg #[.int .i64 x', .int .i64 a', .int .i64 b', .int .i64 c', .int .i64 d', .int .i64 k', .int .i64 v'])).run Try.prog w
      = .ok (eqO ⟨x, ⟨a, b, c, d, k⟩, v⟩ ⟨x', ⟨a', b', c', d', k'⟩, v'⟩) w := by
  have hf : Try.prog.underlying 50 = some (.struct (Try.prog.fieldsOf 50)) := by kernel_rfl
  have hp : Try.prog.stoodInHeld 50 = false := by kernel_rfl
  rw [run_equalIn_fields w (D + 3) _ _ _ [(3, 0), (48, 1), (3, 6)] hf hp (by kernel_rfl) (by kernel_rfl)]
  have hx : eqO ⟨x, ⟨a, b, c, d, k⟩, v⟩ ⟨x', ⟨a', b', c', d', k'⟩, v'⟩ = ((x == x') && ((eqP ⟨a, b, c, d, k⟩ ⟨a', b', c', d', k'⟩) && ((v == v') && true))) := by
    rw [Bool.eq_iff_iff]; simp [eqO, eqP]
  rw [hx]
  have hi := fun (x y : Int) => run_equalIn_int (P := Try.prog) w (D + 2) 3 .i64 .i64 x y Try.underlying3
  exact run_eqF_cons (by kernel_rfl : _ = Result.ok (Value.int .i64 x) w) (by kernel_rfl : _ = Result.ok (Value.int .i64 x') w) (hi _ _)
    (run_eqF_cons (by kernel_rfl : _ = Result.ok (Value.agg #[.int .i64 a, .int .i64 b, .int .i64 c, .int .i64 d, .int .i64 k]) w) (by kernel_rfl : _ = Result.ok (Value.agg #[.int .i64 a', .int .i64 b', .int .i64 c', .int .i64 d', .int .i64 k']) w) (run_eqPath' D _ _ _ _ _ _ _ _ _ _ w)
    (run_eqF_cons (by kernel_rfl : _ = Result.ok (Value.int .i64 v) w) (by kernel_rfl : _ = Result.ok (Value.int .i64 v') w) (hi _ _) run_eqF_nil))
theorem oper_eta (o : Oper) : Oper.mk o.kind o.p o.v = o := rfl
attribute [go_sem] oper_eta
attribute [go_sem 5000] run_eqOper
end Go.Proofs.Ytnkcgakmajdmcaa
