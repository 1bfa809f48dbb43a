/-
  The walk through path.May.
-/
import Derived.Test.YtnkcgakmajdmcaaProg
import Derived.Test.YtnkcgakmajdmcaaData
import Derived.WalkLawsBesides
import Derived.WalkSpells
import Derived.BigQuiet
import Derived.Deep.QuietTactic
namespace Go.Proofs.Ytnkcgakmajdmcaa
open Go.RowKit

set_option maxRecDepth 100000 in
theorem idx4 (a b c d : Int) (k : Nat) (hk : k < 4) (w : World) :
    (Instr.index 46 (.agg #[.int .i64 a, .int .i64 b, .int .i64 c, .int .i64 d]) (.int .i64 k)).run Try.prog w = .ok (.int .i64 ((Path.mk a b c d 0).nth k)) w := by
  have hk' : k = 0 ∨ k = 1 ∨ k = 2 ∨ k = 3 := by omega
  rcases hk' with rfl | rfl | rfl | rfl
  · exact (by kernel_rfl : (Instr.index 46 (.agg #[.int .i64 a, .int .i64 b, .int .i64 c, .int .i64 d]) (.int .i64 0)).run Try.prog w = .ok (.int .i64 a) w)
  · exact (by kernel_rfl : (Instr.index 46 (.agg #[.int .i64 a, .int .i64 b, .int .i64 c, .int .i64 d]) (.int .i64 1)).run Try.prog w = .ok (.int .i64 b) w)
  · exact (by kernel_rfl : (Instr.index 46 (.agg #[.int .i64 a, .int .i64 b, .int .i64 c, .int .i64 d]) (.int .i64 2)).run Try.prog w = .ok (.int .i64 c) w)
  · exact (by kernel_rfl : (Instr.index 46 (.agg #[.int .i64 a, .int .i64 b, .int .i64 c, .int .i64 d]) (.int .i64 3)).run Try.prog w = .ok (.int .i64 d) w)

set_option maxRecDepth 100000 in
set_option maxHeartbeats 400000 in
theorem may_any (p : Path) (w : World) :
    Calls Try.prog 86 #[.agg #[.int .i64 p.a, .int .i64 p.b, .int .i64 p.c, .int .i64 p.d, .int .i64 p.k]] w fun e w' => e = .returned (.bool (mayB p)) ∧ Below w.heap.size w w' := by
  by_cases h1 : p.k < 1
  · have hm : Hid (mayB p = false) := by show _ = _; simp [mayB]; omega
    go_enter Try.func86, Try.ntmps86
    go_wp2
    go_ret
    exact ⟨ret_bool hm.out.symm, (Below.refl _ _).alloc (Nat.le_refl _) _⟩
  by_cases h4 : 4 < p.k
  · have hm : Hid (mayB p = false) := by show _ = _; simp [mayB]; omega
    go_enter Try.func86, Try.ntmps86
    go_wp2
    go_ret
    exact ⟨ret_bool hm.out.symm, (Below.refl _ _).alloc (Nat.le_refl _) _⟩
  go_enter Try.func86, Try.ntmps86
  go_wp2
  go_loop [15] (fun i => ∃ k : Nat, k ≤ 4 ∧ i = .int .i64 k ∧ Hid (∀ j : Nat, j < k → okN p.k j (p.nth j) = true)) (fun i => 4 - (intOf i).toNat)
  case atStart => exact ⟨0, by omega, rfl, fun j h => by omega⟩
  case round =>
    obtain ⟨k, hk, rfl, hj⟩ := hrel
    by_cases hlt : k < 4
    · have hx := idx4 p.a p.b p.c p.d k hlt
      have en : (Path.mk p.a p.b p.c p.d 0).nth k = p.nth k := by
        have hk' : k = 0 ∨ k = 1 ∨ k = 2 ∨ k = 3 := by omega
        rcases hk' with rfl | rfl | rfl | rfl <;> rfl
      rw [en] at hx
      clear en
      by_cases hok : 0 ≤ p.nth k ∧ p.nth k ≤ 999 ∧ (k < p.k ∨ p.nth k = 0)
      · have hz : (k : Int) < p.k ∨ (p.k ≤ (k : Int) ∧ p.nth k = 0) := by omega
        have hrel : Hid (∀ j : Nat, j < k + 1 → okN p.k j (p.nth j) = true) := by
          intro j hjk
          by_cases e : j = k
          · subst e; exact okN_t hok.1 hok.2.1 hok.2.2
          · exact hj.out j (by omega)
        rcases hz with hz | ⟨hz, hz2⟩
        · go_wp2
          go_round
          case rel => exact ⟨k + 1, by omega, by go_num, hrel⟩
          case measure => simp [intOf]; omega
        · have hzb : (p.nth k != 0) = false := by simp [hz2]
          rw [hz2] at hx
          clear hok
          go_wp2
          go_round
          case rel => exact ⟨k + 1, by omega, by go_num, hrel⟩
          case measure => simp [intOf]; omega
      · have hm : Hid (mayB p = false) := may_f k hlt (okN_f (by omega))
        by_cases hz : p.nth k = 0
        · omega
        have hzb : (p.nth k != 0) = true := by simp [hz]
        go_wp2
        all_goals first
          | (exfalso; omega)
          | (go_ret; exact ⟨ret_bool hm.out.symm, (Below.refl _ _).alloc (Nat.le_refl _) _⟩)
    · go_wp2
      go_ret
      exact ⟨ret_bool (may_t (by omega) (by omega) (fun j hjj => hj.out j (by omega))).symm, (Below.refl _ _).alloc (Nat.le_refl _) _⟩
end Go.Proofs.Ytnkcgakmajdmcaa
