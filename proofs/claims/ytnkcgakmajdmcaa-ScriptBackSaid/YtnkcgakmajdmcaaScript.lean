/-
  The walks through script's own small functions: within, Right, config, bytes.
-/
import Derived.Test.YtnkcgakmajdmcaaOp
import Derived.Deep.DeepCutAuto
import Derived.Deep.RegionHeld3
namespace Go.Proofs.Ytnkcgakmajdmcaa
open Go.RowKit

set_option maxRecDepth 100000 in
theorem within_any (n l m : Int) (w : World) :
    Calls Try.prog 56 #[.int .i64 n, .int .i64 l, .int .i64 m] w fun e w' => e = .returned (.bool (wi n l m)) ∧ w = w' := by
  go_enter Try.func56, Try.ntmps56
  go_wp2
  all_goals go_ret
  all_goals exact ⟨ret_bool (by simp [wi]; omega), rfl⟩

set_option maxRecDepth 100000 in
set_option maxHeartbeats 400000 in
theorem right_any (c : Cfg) (w : World) :
    Calls Try.prog 15 #[.agg #[.int .i64 c.cl, .int .i64 c.po, .int .i64 c.vi, .int .i64 c.he, .int .i64 c.re, .int .i64 c.la, .int .i64 c.ti, .int .i64 c.gr, .int .i64 c.ck]] w
      fun e w' => e = .returned (.bool (rightB c)) ∧ w' = w.alloc (.cells #[.int .i64 c.cl, .int .i64 c.po, .int .i64 c.vi, .int .i64 c.he, .int .i64 c.re, .int .i64 c.la, .int .i64 c.ti, .int .i64 c.gr, .int .i64 c.ck] 23) := by
  go_enter Try.func15, Try.ntmps15
  go_upto_region 1 with fail
  go_cut [3] (fun s wx => s = .bool (right1 c) ∧ w.alloc (.cells #[.int .i64 c.cl, .int .i64 c.po, .int .i64 c.vi, .int .i64 c.he, .int .i64 c.re, .int .i64 c.la, .int .i64 c.ti, .int .i64 c.gr, .int .i64 c.ck] 23) = wx)
  case first =>
    go_wp2_with (go_at_call 56; refine (within_any _ _ _ _).mono ?_; rintro e w1 ⟨rfl, rfl⟩)
    all_goals (go_meet; exact ⟨by simp [right1, *], rfl⟩)
  case rest =>
  obtain ⟨rfl, rfl⟩ := hcut
  go_upto_region 2 with fail
  go_cut [4] (fun s wx => s = .bool (right2 c) ∧ w.alloc (.cells #[.int .i64 c.cl, .int .i64 c.po, .int .i64 c.vi, .int .i64 c.he, .int .i64 c.re, .int .i64 c.la, .int .i64 c.ti, .int .i64 c.gr, .int .i64 c.ck] 23) = wx)
  case first =>
    go_wp2_with (go_at_call 56; refine (within_any _ _ _ _).mono ?_; rintro e w1 ⟨rfl, rfl⟩)
    all_goals (go_meet; exact ⟨by simp [right2, *], rfl⟩)
  case rest =>
  obtain ⟨rfl, rfl⟩ := hcut
  go_upto_region 3 with fail
  go_cut [5] (fun s wx => s = .bool (right3 c) ∧ w.alloc (.cells #[.int .i64 c.cl, .int .i64 c.po, .int .i64 c.vi, .int .i64 c.he, .int .i64 c.re, .int .i64 c.la, .int .i64 c.ti, .int .i64 c.gr, .int .i64 c.ck] 23) = wx)
  case first =>
    go_wp2_with (go_at_call 56; refine (within_any _ _ _ _).mono ?_; rintro e w1 ⟨rfl, rfl⟩)
    all_goals (go_meet; exact ⟨by simp [right3, *]; try omega, rfl⟩)
  case rest =>
  obtain ⟨rfl, rfl⟩ := hcut
  go_wp2_with (go_at_call 56; refine (within_any _ _ _ _).mono ?_; rintro e w1 ⟨rfl, rfl⟩)
  all_goals (go_ret; exact ⟨ret_bool (by simp [rightB, *]), rfl⟩)


set_option maxRecDepth 100000 in
set_option maxHeartbeats 400000 in
theorem config_any (b0 b1 b2 b3 b4 b5 b6 b7 : Int) (h0 : isB b0) (h1 : isB b1) (h2 : isB b2) (h3 : isB b3) (h4 : isB b4) (h5 : isB b5) (h6 : isB b6) (h7 : isB b7) (w : World) :
    Calls Try.prog 58 #[.agg #[.int .u8 b0, .int .u8 b1, .int .u8 b2, .int .u8 b3, .int .u8 b4, .int .u8 b5, .int .u8 b6, .int .u8 b7]] w
      fun e w' => e = .returned (.agg #[.int .i64 (1 + b0 % 8), .int .i64 (b1 % 4), .int .i64 (b2 % 2), .int .i64 (1 + b3), .int .i64 (1 + 4 * b4), .int .i64 (1 + b5 % 8), .int .i64 (1 + b6), .int .i64 (b7 % 16), .int .i64 1048576])
        ∧ Below w.heap.size w w' := by
  obtain ⟨l0, g0⟩ := h0; obtain ⟨l1, g1⟩ := h1; obtain ⟨l2, g2⟩ := h2; obtain ⟨l3, g3⟩ := h3
  obtain ⟨l4, g4⟩ := h4; obtain ⟨l5, g5⟩ := h5; obtain ⟨l6, g6⟩ := h6; obtain ⟨l7, g7⟩ := h7
  go_enter Try.func58, Try.ntmps58
  go_wp2
  exact bodyPost_ret (v := .agg #[.int .i64 (1 + b0 % 8), .int .i64 (b1 % 4), .int .i64 (b2 % 2), .int .i64 (1 + b3), .int .i64 (1 + 4 * b4), .int .i64 (1 + b5 % 8), .int .i64 (1 + b6), .int .i64 (b7 % 16), .int .i64 1048576])
    (by simp [results, Try.results58, go_sem]) rfl ⟨rfl, Below.two _ _ _⟩

/-- the eight bytes of a machine -/
def cb6 (c : Cfg) : Int := (c.ti - 1) % 256
def isCfg (c : Cfg) : Bool := eqC (cfgOf (c.cl - 1) c.po c.vi (c.he - 1) ((c.re - 1) / 4) (c.la - 1) (cb6 c) c.gr) c

set_option maxRecDepth 100000 in
set_option maxHeartbeats 1000000 in
theorem bytes_no (c : Cfg) (w : World) (hr : rightB c = false) :
    Calls Try.prog 53 #[.agg #[.int .i64 c.cl, .int .i64 c.po, .int .i64 c.vi, .int .i64 c.he, .int .i64 c.re, .int .i64 c.la, .int .i64 c.ti, .int .i64 c.gr, .int .i64 c.ck]] w
      fun e w' => e = .returned (.tuple #[.agg #[.int .u8 0, .int .u8 0, .int .u8 0, .int .u8 0, .int .u8 0, .int .u8 0, .int .u8 0, .int .u8 0], .bool false]) ∧ Below w.heap.size w w' := by
  go_enter Try.func53, Try.ntmps53
  go_wp2_with (go_at_call 15; refine (right_any _ _).mono ?_; rintro e w1 ⟨rfl, rfl⟩)
  exact bodyPost_ret (v := .tuple #[.agg #[.int .u8 0, .int .u8 0, .int .u8 0, .int .u8 0, .int .u8 0, .int .u8 0, .int .u8 0, .int .u8 0], .bool false]) (by simp [results, Try.results53, go_sem]) rfl ⟨rfl, Below.three _ _ _ _⟩

set_option maxRecDepth 100000 in
set_option maxHeartbeats 1000000 in
theorem bytes_yes (c : Cfg) (w : World) (hr : rightB c = true) :
    Calls Try.prog 53 #[.agg #[.int .i64 c.cl, .int .i64 c.po, .int .i64 c.vi, .int .i64 c.he, .int .i64 c.re, .int .i64 c.la, .int .i64 c.ti, .int .i64 c.gr, .int .i64 c.ck]] w
      fun e w' => e = .returned (.tuple #[.agg #[.int .u8 (c.cl - 1), .int .u8 c.po, .int .u8 c.vi, .int .u8 (c.he - 1), .int .u8 ((c.re - 1) / 4), .int .u8 (c.la - 1), .int .u8 (cb6 c), .int .u8 c.gr], .bool (isCfg c)]) ∧ Below w.heap.size w w' := by
  have hb : (1 ≤ c.cl ∧ c.cl ≤ 8) ∧ (1 ≤ c.he ∧ c.he ≤ 256) ∧ (1 ≤ c.re ∧ c.re ≤ 1024) ∧ (1 ≤ c.la ∧ c.la ≤ 64) ∧ (0 ≤ c.po ∧ c.po ≤ 3) ∧ (0 ≤ c.vi ∧ c.vi ≤ 1) ∧ (1 ≤ c.ti ∧ c.ti ≤ 1000) ∧ 0 ≤ c.gr ∧ c.gr ≤ 100 := by
    simp [rightB, right1, right2, right3, wi] at hr; omega
  obtain ⟨⟨b1, b2⟩, ⟨b3, b4⟩, ⟨b5, b6⟩, ⟨b7, b8⟩, ⟨b9, b10⟩, ⟨b11, b12⟩, ⟨b13, b14⟩, b15, b16⟩ := hb
  go_enter Try.func53, Try.ntmps53
  go_upto_region 4 with (go_at_call 15; refine (right_any _ _).mono ?_; rintro e w1 ⟨rfl, rfl⟩)
  generalize hW : ((((w.alloc _).alloc _).alloc _).alloc _) = W
  have hbel : Below w.heap.size w W := by subst hW; exact (((Below.one _ _).alloc (by simp) _).alloc (by simp <;> omega) _).alloc (by simp <;> omega) _
  generalize hB : w.heap.size = B at *
  have k0 : W.heap[B]? = some (.cells #[.int .i64 c.cl, .int .i64 c.po, .int .i64 c.vi, .int .i64 c.he, .int .i64 c.re, .int .i64 c.la, .int .i64 c.ti, .int .i64 c.gr, .int .i64 c.ck] 23 (0, 0)) := by
    subst hW; exact blk_old (blk_old (blk_old (blk_new _ _ _ hB)))
  have k1 : W.heap[B + 1]? = some (.cells #[.int .u8 0, .int .u8 0, .int .u8 0, .int .u8 0, .int .u8 0, .int .u8 0, .int .u8 0, .int .u8 0] 101 (0, 0)) := by
    subst hW; exact blk_old (blk_old (blk_new _ _ _ (size_alloc _ _ hB)))
  have k3 : W.heap[B + 1 + 1 + 1]? = some (.cells #[.int .u8 (c.cl - 1), .int .u8 c.po, .int .u8 c.vi, .int .u8 (c.he - 1), .int .u8 ((c.re - 1) / 4), .int .u8 (c.la - 1), .int .u8 ((c.ti - 1) % 256), .int .u8 c.gr] 101 (0, 0)) := by
    subst hW; exact blk_new _ _ _ (size_alloc _ _ (size_alloc _ _ (size_alloc _ _ hB)))
  have hs3 : B + 1 + 1 + 1 < W.heap.size := by subst hW; simp; omega
  have hs1 : B + 1 < W.heap.size := by omega
  have hs0 : B < W.heap.size := by omega
  clear hW
  have HB := Lib.hid hB; clear hB
  have e0 := blk_cell k0 0 rfl; have e1 := blk_cell k0 1 rfl; have e2 := blk_cell k0 2 rfl; have e3 := blk_cell k0 3 rfl; have e4 := blk_cell k0 4 rfl
  have e5 := blk_cell k0 5 rfl; have e6 := blk_cell k0 6 rfl; have e7 := blk_cell k0 7 rfl; have e8 := blk_cell k0 8 rfl
  have g0 := blk_cell k3 0 rfl; have g1 := blk_cell k3 1 rfl; have g2 := blk_cell k3 2 rfl; have g3 := blk_cell k3 3 rfl
  have g4 := blk_cell k3 4 rfl; have g5 := blk_cell k3 5 rfl; have g6 := blk_cell k3 6 rfl; have g7 := blk_cell k3 7 rfl
  have i0 := blk_cell k1 0 rfl; have i1 := blk_cell k1 1 rfl; have i2 := blk_cell k1 2 rfl; have i3 := blk_cell k1 3 rfl
  have i4 := blk_cell k1 4 rfl; have i5 := blk_cell k1 5 rfl; have i6 := blk_cell k1 6 rfl; have i7 := blk_cell k1 7 rfl
  have hfr := fun o => blk_free k1 o
  clear k0 k1 k3
  go_region_held3 (fun w' => w'.cell? ⟨B, 0, none⟩ = some (.int .i64 (c.cl)) ∧ w'.cell? ⟨B, 1, none⟩ = some (.int .i64 (c.po)) ∧ w'.cell? ⟨B, 2, none⟩ = some (.int .i64 (c.vi)) ∧ w'.cell? ⟨B, 3, none⟩ = some (.int .i64 (c.he)) ∧ w'.cell? ⟨B, 4, none⟩ = some (.int .i64 (c.re)) ∧ w'.cell? ⟨B, 5, none⟩ = some (.int .i64 (c.la)) ∧ w'.cell? ⟨B, 6, none⟩ = some (.int .i64 (c.ti)) ∧ w'.cell? ⟨B, 7, none⟩ = some (.int .i64 (c.gr)) ∧ w'.cell? ⟨B, 8, none⟩ = some (.int .i64 (c.ck)) ∧ w'.cell? ⟨B + 1 + 1 + 1, 0, none⟩ = some (.int .u8 (c.cl - 1)) ∧ w'.cell? ⟨B + 1 + 1 + 1, 1, none⟩ = some (.int .u8 (c.po)) ∧ w'.cell? ⟨B + 1 + 1 + 1, 2, none⟩ = some (.int .u8 (c.vi)) ∧ w'.cell? ⟨B + 1 + 1 + 1, 3, none⟩ = some (.int .u8 (c.he - 1)) ∧ w'.cell? ⟨B + 1 + 1 + 1, 4, none⟩ = some (.int .u8 ((c.re - 1) / 4)) ∧ w'.cell? ⟨B + 1 + 1 + 1, 5, none⟩ = some (.int .u8 (c.la - 1)) ∧ w'.cell? ⟨B + 1 + 1 + 1, 6, none⟩ = some (.int .u8 ((c.ti - 1) % 256)) ∧ w'.cell? ⟨B + 1 + 1 + 1, 7, none⟩ = some (.int .u8 (c.gr))) (go_keep)
    ((go_at_call 58; refine (config_any _ _ _ _ _ _ _ _ ⟨by omega, by omega⟩ ⟨by omega, by omega⟩ ⟨by omega, by omega⟩ ⟨by omega, by omega⟩ ⟨by omega, by omega⟩ ⟨by omega, by omega⟩ ⟨by omega, by omega⟩ ⟨by omega, by omega⟩ _).mono ?_; rintro e w1 ⟨rfl, hb⟩; obtain ⟨hc, hf, hz⟩ := bcell hb; (try simp only [World.size_drew, World.cell?_drew, World.frozen?_drew] at hc hf hz)))
  go_wp2
  refine bodyPost_ret (v := .tuple #[.agg #[.int .u8 (c.cl - 1), .int .u8 c.po, .int .u8 c.vi, .int .u8 (c.he - 1), .int .u8 ((c.re - 1) / 4), .int .u8 (c.la - 1), .int .u8 (cb6 c), .int .u8 c.gr], .bool (isCfg c)]) ?_ rfl ?_
  · simp [results, Try.results53, go_sem, hc, hs1, i0, i1, i2, i3, i4, i5, i6, i7, World.cell?_setCell_far]
    exact ⟨rfl, rfl⟩
  · refine ⟨rfl, ?_⟩
    rw [HB.out]
    repeat (refine Below.setCell ?_ (Nat.le_add_right _ _) _)
    exact hbel.drew.trans (hb.mono (by simp; omega))
end Go.Proofs.Ytnkcgakmajdmcaa
