/-
  The walk through op.number: a number's bytes behind others.
-/
import Derived.Test.YtnkcgakmajdmcaaOwn
import Derived.Test.YtnkcgakmajdmcaaProg
import Derived.WalkLawsBesides
import Derived.WalkSpells
namespace Go.Proofs.Ytnkcgakmajdmcaa
open Go.RowKit

theorem infoByte : (Try.prog.info? 5).map (fun i => (i.zero, i.size, i.bytes)) = some (some (.int .u8 0), 1, 1) := by kernel_rfl

def be (n : Int) (size k : Nat) : List Int := (List.range k).map fun j => n / 2 ^ (8 * (size - 1 - j)) % 256
theorem be_succ (n : Int) (size k : Nat) : be n size (k + 1) = be n size k ++ [n / 2 ^ (8 * (size - 1 - k)) % 256] := by simp [be, List.range_succ]
theorem be_length (n : Int) (size k : Nat) : (be n size k).length = k := by simp [be]

def NumPost (base : Nat) (xs : List Int) (v : Value) (w : World) (e : Ending) (w' : World) : Prop :=
  ∃ v', e = .returned v' ∧ OwnF encB 1 5 base w' v' xs ∧ w.grownBy w' v.ownBlock ∧ Moved w v v'

set_option maxRecDepth 100000 in
set_option maxHeartbeats 1000000 in
theorem number_any (xs : List Int) (v : Value) (base : Nat) (n : Int) (size : Nat) (hs : size ≤ 4) (h0 : 0 ≤ n) (h1 : n ≤ 1073741824) (w : World) (hown : OwnF encB 1 5 base w v xs) (hbase : base ≤ w.heap.size)
    (hl : xs.length ≤ 1099511627776) :
    Calls Try.prog 87 #[v, .int .i64 n, .int .i64 size] w (NumPost base (xs ++ be n size size) v w) := by
  go_enter Try.func87, Try.ntmps87
  go_wp2
  go_loopw [0, 7] (fun b i wr => ∃ (k : Nat) (z : Int), k ≤ size ∧ i = .int .i64 z ∧ z + k + 1 ≤ size ∧ size ≤ z + k + 1 ∧ OwnF encB 1 5 base wr b (xs ++ be n size k) ∧ w.grownBy wr v.ownBlock ∧ Moved w v b) (fun _ i _ => (intOf i + 1).toNat)
  case atStart => exact ⟨0, (size : Int) - 1, by omega, rfl, by omega, by omega, by simpa [be] using hown, grown_refl _ _, Moved.refl _ _⟩
  case round =>
    obtain ⟨k, z, hk, rfl, hz1, hz2, ho, hg, hm⟩ := hrel
    have hw := hg.size
    by_cases hlt : 0 ≤ z
    · obtain ⟨j, rfl⟩ := Int.eq_ofNat_of_zero_le hlt
      have hbl : (xs ++ be n size k).length = xs.length + k := by simp [be_length]
      have hsb := be_succ n size k
      have ej : size - 1 - k = j := by omega
      rw [ej] at hsb
      have HS := Lib.hid hsb
      have hle : (xs ++ be n size k).length + 1 ≤ 140737488355328 := by omega
      clear ej hbl hsb
      go_wp2_with (at_builtin; refine append1 encB 1 base rfl (.tmp 14) (.tmp 20) 30 5 (.int .u8 0) 1 rfl Try.underlying30 infoByte rfl (by decide) (by decide) u0 (xs ++ be n size k) (n / 2 ^ (8 * j) % 256) rfl rfl rfl (encB_one _) ho (by omega) (by omega) ?_; intro v1 w1 hown1 hg1 hm1; clear ho)
      go_roundw
      case rel =>
        refine ⟨k + 1, (j : Int) - 1, by omega, rfl, by omega, by omega, ?_, grown_trans hg hg1 hm, hm.trans hm1 hw⟩
        rw [HS.out, ← List.append_assoc]; exact hown1
      case measure => simp [intOf] <;> omega
    · obtain rfl : k = size := by omega
      go_wp2
      go_ret
      exact ⟨_, rfl, ho, hg, hm⟩
end Go.Proofs.Ytnkcgakmajdmcaa
