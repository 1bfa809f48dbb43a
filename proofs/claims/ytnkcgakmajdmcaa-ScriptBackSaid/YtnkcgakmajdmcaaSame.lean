/-
  The walks through the references' comparisons: SameInts, SameOps.
-/
import Derived.Test.YtnkcgakmajdmcaaEq
import Derived.Test.YtnkcgakmajdmcaaMem
import Derived.Deep.DeepCutAuto
import Derived.Deep.RegionHeld3
import Derived.BigQuiet
import Derived.Deep.QuietTactic
namespace Go.Proofs.Ytnkcgakmajdmcaa
open Go.RowKit

set_option maxRecDepth 100000 in
set_option maxHeartbeats 400000 in
theorem sameInts_any (xs ys : List Int) (A B : Option Addr) (c d : Nat) (w : World) (hx : Sl kInt w A c xs) (hy : Sl kInt w B d ys) :
    Calls Try.prog 25 #[.slice A xs.length c, .slice B ys.length d] w fun e w' => e = .returned (.bool (decide (xs = ys))) ∧ Drawn w w' := by
  have hxl := hx.le; have hxt := hx.top; have hyl := hy.le; have hyt := hy.top
  by_cases hl : xs.length = ys.length
  · have hlb : ((xs.length : Int) != (ys.length : Int)) = false := by simp [hl]
    have HL := Lib.hid hl; clear hl
    go_enter Try.func25, Try.ntmps25
    go_wp2
    go_loopw [13] (fun i wr => ∃ k : Nat, k ≤ xs.length ∧ i = .int .i64 k ∧ Hid (xs.take k = ys.take k) ∧ Drawn w wr) (fun i _ => xs.length - (intOf i).toNat)
    case atStart => exact ⟨0, by omega, rfl, rfl, Drawn.refl _⟩
    case round =>
      obtain ⟨k, hk, rfl, hrel, hdr⟩ := hrel
      by_cases hlt : k < xs.length
      · have hlt' : k < ys.length := by have := HL.out; omega
        obtain ⟨b, off, rfl, hc1⟩ := (hx.below hdr.below).int_at hlt
        obtain ⟨b', off', rfl, hc2⟩ := (hy.below hdr.below).int_at hlt'
        by_cases he : xs[k] = ys[k]
        · have heb : (xs[k] != ys[k]) = false := by simp [he]
          have hrel' : Hid (xs.take (k + 1) = ys.take (k + 1)) := take_succ_eq hlt hlt' hrel.out he
          clear he hrel
          go_wp2
          go_quiet (fail)
          go_wp2
          go_roundw
          case rel => exact ⟨k + 1, by omega, by go_num, hrel', by first | exact hdr.step _ | exact hdr⟩
          case measure => simp [intOf]; omega
        · have heb : (xs[k] != ys[k]) = true := by simp [he]
          have hne : Hid (xs ≠ ys) := ne_of_getElem hlt hlt' he
          clear he hrel
          go_wp2
          go_quiet (fail)
          go_wp2
          go_ret
          exact ⟨ret_bool (by simp [hne.out]), by first | exact hdr.step _ | exact hdr⟩
      · have he : Hid (xs = ys) := take_all_eq HL.out (by omega) hrel.out
        go_wp2
        go_ret
        exact ⟨ret_bool (by simp [he.out]), by first | exact hdr.step _ | exact hdr⟩
  · have hlb : ((xs.length : Int) != (ys.length : Int)) = true := by rw [bne_iff_ne]; omega
    have hne : Hid (xs ≠ ys) := fun e => hl (by rw [e])
    clear hl
    go_enter Try.func25, Try.ntmps25
    go_wp2
    go_ret
    exact ⟨ret_bool (by simp [hne.out]), Drawn.refl _⟩

set_option maxRecDepth 100000 in
set_option maxHeartbeats 400000 in
theorem sameOps_any (xs ys : List Oper) (A B : Option Addr) (c d : Nat) (w : World) (hx : Sl kOper w A c xs) (hy : Sl kOper w B d ys) :
    Calls Try.prog 57 #[.slice A xs.length c, .slice B ys.length d] w fun e w' => e = .returned (.bool (decide (xs = ys))) ∧ Drawn w w' := by
  have hxl := hx.le; have hxt := hx.top; have hyl := hy.le; have hyt := hy.top
  by_cases hl : xs.length = ys.length
  · have hlb : ((xs.length : Int) != (ys.length : Int)) = false := by simp [hl]
    have HL := Lib.hid hl; clear hl
    go_enter Try.func57, Try.ntmps57
    go_wp2
    go_loopw [13] (fun i wr => ∃ k : Nat, k ≤ xs.length ∧ i = .int .i64 k ∧ Hid (xs.take k = ys.take k) ∧ Drawn w wr) (fun i _ => xs.length - (intOf i).toNat)
    case atStart => exact ⟨0, by omega, rfl, rfl, Drawn.refl _⟩
    case round =>
      obtain ⟨k, hk, rfl, hrel, hdr⟩ := hrel
      by_cases hlt : k < xs.length
      · have hlt' : k < ys.length := by have := HL.out; omega
        obtain ⟨b, off, rfl, f0, f1, f2, f3, f4, f5, f6⟩ := (hx.below hdr.below).oper_at hlt
        obtain ⟨b', off', rfl, g0, g1, g2, g3, g4, g5, g6⟩ := (hy.below hdr.below).oper_at hlt'
        by_cases he : xs[k] = ys[k]
        · have heb : eqO xs[k] ys[k] = true := by simp [eqO, he]
          have hrel' : Hid (xs.take (k + 1) = ys.take (k + 1)) := take_succ_eq hlt hlt' hrel.out he
          clear he hrel
          go_wp2
          go_quiet (fail)
          go_wp2
          go_roundw
          case rel => exact ⟨k + 1, by omega, by go_num, hrel', by first | exact hdr.step _ | exact hdr⟩
          case measure => simp [intOf]; omega
        · have heb : eqO xs[k] ys[k] = false := by simp [eqO, he]
          have hne : Hid (xs ≠ ys) := ne_of_getElem hlt hlt' he
          clear he hrel
          go_wp2
          go_quiet (fail)
          go_wp2
          go_ret
          exact ⟨ret_bool (by simp [hne.out]), by first | exact hdr.step _ | exact hdr⟩
      · have he : Hid (xs = ys) := take_all_eq HL.out (by omega) hrel.out
        go_wp2
        go_ret
        exact ⟨ret_bool (by simp [he.out]), by first | exact hdr.step _ | exact hdr⟩
  · have hlb : ((xs.length : Int) != (ys.length : Int)) = true := by rw [bne_iff_ne]; omega
    have hne : Hid (xs ≠ ys) := fun e => hl (by rw [e])
    clear hl
    go_enter Try.func57, Try.ntmps57
    go_wp2
    go_ret
    exact ⟨ret_bool (by simp [hne.out]), Drawn.refl _⟩
end Go.Proofs.Ytnkcgakmajdmcaa
