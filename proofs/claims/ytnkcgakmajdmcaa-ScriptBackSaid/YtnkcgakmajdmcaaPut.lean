/-
  The walk through op.Put: an operation's bytes.
-/
import Derived.Test.YtnkcgakmajdmcaaNumber
import Derived.Test.YtnkcgakmajdmcaaOp
import Derived.Deep.DeepCutAuto
namespace Go.Proofs.Ytnkcgakmajdmcaa
open Go.RowKit

/-- the numbers of a node, two bytes each -/
def nums2 (p : Path) (k : Nat) : List Int := (List.range k).flatMap fun j => be (p.nth j) 2 2
theorem nums2_succ (p : Path) (k : Nat) : nums2 p (k + 1) = nums2 p k ++ be (p.nth k) 2 2 := by simp [nums2, List.range_succ]
theorem nums2_length (p : Path) (k : Nat) : (nums2 p k).length = 2 * k := by
  induction k with
  | zero => rfl
  | succ k ih => rw [nums2_succ, List.length_append, ih, be_length]; omega
def putB (o : Oper) : List Int := ([o.kind * 8 + o.p.k] ++ nums2 o.p o.p.k.toNat) ++ (if o.kind = 4 then be o.v 4 4 else [])

theorem okOp_bounds {o : Oper} (h : okOp o = true) : (1 ≤ o.kind ∧ o.kind ≤ 7) ∧ (0 ≤ o.p.k ∧ o.p.k ≤ 4) ∧ (0 ≤ o.v ∧ o.v ≤ 1073741824) ∧ (0 ≤ o.p.a ∧ o.p.a ≤ 999) ∧ (0 ≤ o.p.b ∧ o.p.b ≤ 999) ∧ (0 ≤ o.p.c ∧ o.p.c ≤ 999) ∧ (0 ≤ o.p.d ∧ o.p.d ≤ 999) := by
  rcases o with ⟨x, ⟨a, b, c, d, k⟩, v⟩
  simp only [okOp, Path.zero, mayB, okN, Bool.and_eq_true, Bool.or_eq_true, decide_eq_true_eq, Path.mk.injEq] at h ⊢
  obtain ⟨⟨h, h1⟩, h2⟩ := h
  have h2' : v ≤ 1073741824 := by split at h2 <;> omega
  omega

def PutPost (o : Oper) (w : World) (e : Ending) (w' : World) : Prop :=
  ∃ v, e = .returned v ∧ OwnF encB 1 5 w.heap.size w' v (putB o) ∧ Below w.heap.size w w'

set_option maxRecDepth 100000 in
set_option maxHeartbeats 1000000 in
theorem put_ok (o : Oper) (hok : okOp o = true) (w : World) :
    Calls Try.prog 55 #[.agg #[.int .i64 o.kind, .int .i64 o.p.a, .int .i64 o.p.b, .int .i64 o.p.c, .int .i64 o.p.d, .int .i64 o.p.k, .int .i64 o.v]] w (PutPost o w) := by
  obtain ⟨⟨b1, b2⟩, ⟨b3, b4⟩, ⟨b5, b6⟩, ⟨b7, b8⟩, ⟨b9, b10⟩, ⟨b11, b12⟩, b13, b14⟩ := okOp_bounds hok
  have hch : checkN o = 0 := by simp [checkN, hok]
  clear hok
  obtain ⟨x, ⟨n0, n1, n2, n3, kk⟩, y⟩ := o
  dsimp only at b1 b2 b3 b4 b5 b6 b7 b8 b9 b10 b11 b12 b13 b14 hch ⊢
  obtain ⟨d, rfl⟩ := Int.eq_ofNat_of_zero_le b3
  have hcb : (checkN ⟨x, ⟨n0, n1, n2, n3, d⟩, y⟩ != 0) = false := by simp [hch]
  clear hch
  obtain ⟨nt, hnt⟩ : ∃ nt : Nat → Int, nt = (Path.mk n0 n1 n2 n3 d).nth := ⟨_, rfl⟩
  have HN := Lib.hid hnt
  have hfin : putB ⟨x, ⟨n0, n1, n2, n3, d⟩, y⟩ = ([x * 8 + d] ++ nums2 ⟨n0, n1, n2, n3, d⟩ d) ++ (if x = 4 then be y 4 4 else []) := by simp [putB]
  have HF := Lib.hid hfin
  clear hnt hfin
  go_enter Try.func55, Try.ntmps55
  go_upto_region 3 with (go_at_call 54; refine (check_any ⟨x, ⟨n0, n1, n2, n3, d⟩, y⟩ _).mono ?_; rintro e w1 ⟨rfl, hb⟩; obtain ⟨hc, hf, hz⟩ := bcell hb; (try simp only [World.size_drew, World.cell?_drew, World.frozen?_drew] at hc hf hz))
  have k0 := blk_below hb (blk_new w _ _ rfl)
  have hbel := Below.after1 hb
  have hz1 : w.heap.size < w1.heap.size := by simp at hz; omega
  clear hc hf hz hb
  have e0 := blk_cell k0 0 rfl; have e5 := blk_cell k0 5 rfl
  go_upto_region 5 with (fail)
  have hl1 : OwnF encB 1 5 (w.heap.size + 1) (w1.alloc (.cells #[.int .u8 (x * 8 + d)] 5)) (.slice (some ⟨w1.heap.size, 0, none⟩) 1 1) [x * 8 + (d : Int)] := OwnF.lit1 encB 1 _ w1 _ _ rfl hz1
  replace hbel := hbel.alloc (Nat.le_of_lt hz1) (.cells #[.int .u8 (x * 8 + d)] 5)
  replace k0 := blk_old (o := .cells #[.int .u8 (x * 8 + d)] 5) k0
  have hz2 : w.heap.size < (w1.alloc (.cells #[.int .u8 (x * 8 + d)] 5)).heap.size := by simp; omega
  clear e0 e5
  generalize (w1.alloc (.cells #[.int .u8 (x * 8 + d)] 5)) = W at *
  go_loopw [3, 25] (fun b i wr => ∃ k : Nat, k ≤ d ∧ i = .int .i64 k ∧ OwnF encB 1 5 (w.heap.size + 1) wr b ([x * 8 + (d : Int)] ++ nums2 ⟨n0, n1, n2, n3, d⟩ k) ∧ Below w.heap.size w wr ∧ w.heap.size < wr.heap.size ∧
      wr.heap[w.heap.size]? = some (.cells #[.int .i64 x, .int .i64 n0, .int .i64 n1, .int .i64 n2, .int .i64 n3, .int .i64 d, .int .i64 y] 50 (0, 0))) (fun _ i _ => d - (intOf i).toNat)
  case atStart => exact ⟨0, by omega, rfl, hl1, hbel, hz2, k0⟩
  case round =>
    clear hbel hz2 k0 hl1 hz1
    obtain ⟨k, hk, rfl, ho, hbel, hz2, k0⟩ := hrel
    by_cases hlt : k < d
    · have hk4 : k = 0 ∨ k = 1 ∨ k = 2 ∨ k = 3 := by omega
      have hcell : wr.cell? ⟨w.heap.size, 1 + k, none⟩ = some (.int .i64 (nt k)) := by
        rw [HN.out]
        rcases hk4 with rfl | rfl | rfl | rfl <;> exact blk_cell k0 _ rfl
      have hn0 : 0 ≤ nt k := by rw [HN.out]; rcases hk4 with rfl | rfl | rfl | rfl <;> simpa [Path.nth]
      have hn1 : nt k ≤ 1073741824 := by rw [HN.out]; rcases hk4 with rfl | rfl | rfl | rfl <;> simp [Path.nth] <;> omega
      have hlen : ([x * 8 + (d : Int)] ++ nums2 ⟨n0, n1, n2, n3, d⟩ k).length ≤ 1099511627776 := by simp [nums2_length]; omega
      clear hk4
      go_wp2_with (go_at_call 87; refine (number_any ([x * 8 + (d : Int)] ++ nums2 ⟨n0, n1, n2, n3, d⟩ k) _ (w.heap.size + 1) (nt k) 2 (by omega) hn0 hn1 _ ho hz2 hlen).mono ?_; rintro e w2 ⟨v2, rfl, ho2, hg2, hm2⟩)
      go_roundw
      case rel =>
        refine ⟨k + 1, by omega, by go_num, ?_, hbel.grown hg2 (Nat.le_of_lt hz2) (fun q hq => by have := ho.base_ q hq; omega), Nat.lt_of_lt_of_le hz2 hg2.size, blk_grown k0 hg2 (ho.ne (Nat.lt_succ_self _))⟩
        rw [nums2_succ, ← List.append_assoc, ← HN.out]; exact ho2
      case measure => simp [intOf] <;> omega
    · obtain rfl : k = d := by omega
      have e0 := blk_cell k0 0 rfl; have e6 := blk_cell k0 6 rfl
      by_cases hx : x = 4
      · have hxb : (x == 4) = true := by simp [hx]
        have HX := Lib.hid hx; clear hx
        have hlen : ([x * 8 + (k : Int)] ++ nums2 ⟨n0, n1, n2, n3, k⟩ k).length ≤ 1099511627776 := by simp [nums2_length]; omega
        go_wp2_with (go_at_call 87; refine (number_any ([x * 8 + (k : Int)] ++ nums2 ⟨n0, n1, n2, n3, k⟩ k) _ (w.heap.size + 1) y 4 (by omega) b5 b6 _ ho hz2 hlen).mono ?_; rintro e w2 ⟨v2, rfl, ho2, hg2, hm2⟩)
        go_ret
        refine ⟨v2, rfl, ?_, hbel.grown hg2 (Nat.le_of_lt hz2) (fun q hq => by have := ho.base_ q hq; omega)⟩
        rw [HF.out, if_pos HX.out]; exact ho2.lower (Nat.le_succ _)
      · have hxb : (x == 4) = false := by simp [hx]
        have HX := Lib.hid hx; clear hx
        go_wp2
        go_ret
        refine ⟨_, rfl, ?_, hbel⟩
        rw [HF.out, if_neg HX.out, List.append_nil]; exact ho.lower (Nat.le_succ _)

set_option maxRecDepth 100000 in
set_option maxHeartbeats 1000000 in
theorem put_no (o : Oper) (hok : okOp o = false) (w : World) :
    Calls Try.prog 55 #[.agg #[.int .i64 o.kind, .int .i64 o.p.a, .int .i64 o.p.b, .int .i64 o.p.c, .int .i64 o.p.d, .int .i64 o.p.k, .int .i64 o.v]] w fun e w' => e = .returned (.slice none 0 0) ∧ Below w.heap.size w w' := by
  have hch : checkN o = 60 := by simp [checkN, hok]
  have hcb : (checkN o != 0) = true := by simp [hch]
  clear hch hok
  go_enter Try.func55, Try.ntmps55
  go_wp2_with (go_at_call 54; refine (check_any _ _).mono ?_; rintro e w1 ⟨rfl, hb⟩; obtain ⟨hc, hf, hz⟩ := bcell hb; (try simp only [World.size_drew, World.cell?_drew, World.frozen?_drew] at hc hf hz))
  go_ret
  exact ⟨rfl, Below.after1 hb⟩
end Go.Proofs.Ytnkcgakmajdmcaa
