/-
  The walks through the reference's SamePlan, and through the law's Few.
-/
import Derived.Test.YtnkcgakmajdmcaaSame
namespace Go.Proofs.Ytnkcgakmajdmcaa
open Go.RowKit

def samePlanB (p q : Plan) : Bool := decide (p = q)
theorem samePlan_f {p q : Plan} (h : p.c ≠ q.c ∨ p.ops.length ≠ q.ops.length ∨ p.picks ≠ q.picks ∨ p.ops ≠ q.ops) : samePlanB p q = false := by
  simp only [samePlanB, decide_eq_false_iff_not]
  rintro rfl
  simp at h
theorem samePlan_t {p q : Plan} (h1 : p.c = q.c) (h2 : p.ops = q.ops) (h3 : p.picks = q.picks) : samePlanB p q = true := by
  rcases p with ⟨a, b, c⟩; rcases q with ⟨a', b', c'⟩
  simp only [samePlanB, decide_eq_true_eq, Plan.mk.injEq]
  exact ⟨h1, h2, h3⟩

set_option maxRecDepth 100000 in
set_option maxHeartbeats 1000000 in
theorem samePlan_any (p q : Plan) (A B A' B' : Option Addr) (m n m' n' : Nat) (w : World) (ho : Sl (kSl kOper) w A m p.ops) (hp : Sl kInt w B n p.picks) (ho' : Sl (kSl kOper) w A' m' q.ops) (hp' : Sl kInt w B' n' q.picks) :
    Calls Try.prog 12 #[
      .agg #[.int .i64 p.c.cl, .int .i64 p.c.po, .int .i64 p.c.vi, .int .i64 p.c.he, .int .i64 p.c.re, .int .i64 p.c.la, .int .i64 p.c.ti, .int .i64 p.c.gr, .int .i64 p.c.ck, .slice A p.ops.length m, .slice B p.picks.length n],
      .agg #[.int .i64 q.c.cl, .int .i64 q.c.po, .int .i64 q.c.vi, .int .i64 q.c.he, .int .i64 q.c.re, .int .i64 q.c.la, .int .i64 q.c.ti, .int .i64 q.c.gr, .int .i64 q.c.ck, .slice A' q.ops.length m', .slice B' q.picks.length n']] w
      fun e w' => e = .returned (.bool (samePlanB p q)) ∧ Below w.heap.size w w' := by
  have h1 := ho.le; have h2 := ho.top; have h3 := ho'.le; have h4 := ho'.top
  by_cases hc : p.c = q.c
  · have hcb : eqC p.c q.c = true := by simp [eqC, hc]
    have HC := Lib.hid hc; clear hc
    by_cases hl : p.ops.length = q.ops.length
    · have hlb : ((p.ops.length : Int) != (q.ops.length : Int)) = false := by simp [hl]
      have HL := Lib.hid hl; clear hl
      by_cases hk : p.picks = q.picks
      · have hkb : decide (p.picks = q.picks) = true := by simp [hk]
        have HK := Lib.hid hk; clear hk
        go_enter Try.func12, Try.ntmps12
        go_wp2_with (go_at_call 25; refine (sameInts_any p.picks q.picks _ _ _ _ _ (hp.below (Below.two _ _ _)) (hp'.below (Below.two _ _ _))).mono ?_; rintro e w1 ⟨rfl, nd, rfl⟩)
        generalize hW : ((w.alloc _).alloc _) = W
        have hbel : Below w.heap.size w W := by subst hW; exact Below.two _ _ _
        have e1 : W.cell? ⟨w.heap.size, 9, none⟩ = some (.slice A p.ops.length m) := by subst hW; go_simp
        have e2 : W.cell? ⟨w.heap.size + 1, 9, none⟩ = some (.slice A' q.ops.length m') := by subst hW; go_simp
        clear hW
        replace ho := ho.below hbel
        replace ho' := ho'.below hbel
        go_loopw [31] (fun i wr => ∃ k : Nat, k ≤ p.ops.length ∧ i = .int .i64 k ∧ Hid (p.ops.take k = q.ops.take k) ∧ Drawn W wr) (fun i _ => p.ops.length - (intOf i).toNat)
        case atStart => exact ⟨0, by omega, rfl, rfl, Drawn.of _ _⟩
        case round =>
          obtain ⟨k, hk, rfl, hrel, hdr⟩ := hrel
          replace e1 := (hdr.cell _).trans e1
          replace e2 := (hdr.cell _).trans e2
          by_cases hlt : k < p.ops.length
          · have hlt' : k < q.ops.length := by have := HL.out; omega
            obtain ⟨b, off, X, cX, rfl, hc1, hX⟩ := (ho.below hdr.below).sl_at hlt
            obtain ⟨b', off', Y, cY, rfl, hc2, hY⟩ := (ho'.below hdr.below).sl_at hlt'
            by_cases he : p.ops[k] = q.ops[k]
            · have heb : decide (p.ops[k] = q.ops[k]) = true := by simp [he]
              have hrel' : Hid (p.ops.take (k + 1) = q.ops.take (k + 1)) := take_succ_eq hlt hlt' hrel.out he
              clear he hrel
              go_wp2
              go_quiet ((go_at_call 57; exact Calls.quiet_of (sameOps_any _ _ _ _ _ _ _ (hX.drewN _) (hY.drewN _))))
              go_wp2
              go_roundw
              case rel => exact ⟨k + 1, by omega, by go_num, hrel', hdr.step _⟩
              case measure => simp [intOf]; omega
            · have heb : decide (p.ops[k] = q.ops[k]) = false := by simp [he]
              have hne : Hid (samePlanB p q = false) := samePlan_f (.inr (.inr (.inr (ne_of_getElem hlt hlt' he))))
              clear he hrel
              go_wp2
              go_quiet ((go_at_call 57; exact Calls.quiet_of (sameOps_any _ _ _ _ _ _ _ (hX.drewN _) (hY.drewN _))))
              go_wp2
              go_ret
              exact ⟨ret_bool hne.out.symm, hbel.trans (hdr.step _).below⟩
          · have he : Hid (samePlanB p q = true) := samePlan_t HC.out (take_all_eq HL.out (by omega) hrel.out) HK.out
            go_wp2
            go_ret
            exact ⟨ret_bool he.out.symm, hbel.trans hdr.below⟩
      · have hkb : decide (p.picks = q.picks) = false := by simp [hk]
        have hne : Hid (samePlanB p q = false) := samePlan_f (.inr (.inr (.inl hk)))
        clear hk
        go_enter Try.func12, Try.ntmps12
        go_wp2_with (go_at_call 25; refine (sameInts_any p.picks q.picks _ _ _ _ _ (hp.below (Below.two _ _ _)) (hp'.below (Below.two _ _ _))).mono ?_; rintro e w1 ⟨rfl, nd, rfl⟩)
        go_ret
        exact ⟨ret_bool hne.out.symm, (Below.two _ _ _).trans (Drawn.of _ _).below⟩
    · have hlb : ((p.ops.length : Int) != (q.ops.length : Int)) = true := by rw [bne_iff_ne]; omega
      have hne : Hid (samePlanB p q = false) := samePlan_f (.inr (.inl hl))
      clear hl
      go_enter Try.func12, Try.ntmps12
      go_wp2
      go_ret
      exact ⟨ret_bool hne.out.symm, Below.two _ _ _⟩
  · have hcb : eqC p.c q.c = false := by simp [eqC, hc]
    have hne : Hid (samePlanB p q = false) := samePlan_f (.inl hc)
    clear hc
    go_enter Try.func12, Try.ntmps12
    go_wp2
    go_ret
    exact ⟨ret_bool hne.out.symm, Below.two _ _ _⟩

/-- the law's Few -/
def fewB (p : Plan) : Bool := (p.ops.all fun l => decide (l.length ≤ 70)) && (decide (p.ops.length ≤ 10) && decide (p.picks.length ≤ 500))
theorem few_f {p : Plan} {k : Nat} (hk : k < p.ops.length) (h : ¬ p.ops[k].length ≤ 70) : fewB p = false := by
  have : (p.ops.all fun l => decide (l.length ≤ 70)) = false := by
    rw [List.all_eq_false]; exact ⟨p.ops[k], List.getElem_mem hk, by simpa using h⟩
  simp [fewB, this]
theorem few_t {p : Plan} (h : ∀ j (hj : j < p.ops.length), p.ops[j].length ≤ 70) : fewB p = (decide (p.ops.length ≤ 10) && decide (p.picks.length ≤ 500)) := by
  have : (p.ops.all fun l => decide (l.length ≤ 70)) = true := by
    rw [List.all_eq_true]
    intro l hl
    obtain ⟨j, hj, rfl⟩ := List.getElem_of_mem hl
    simpa using h j hj
  simp [fewB, this]

set_option maxRecDepth 100000 in
set_option maxHeartbeats 1000000 in
theorem few_any (p : Plan) (A B : Option Addr) (m n : Nat) (w : World) (ho : Sl (kSl kOper) w A m p.ops) (hp : Sl kInt w B n p.picks) :
    Calls Try.prog 10 #[
      .agg #[.int .i64 p.c.cl, .int .i64 p.c.po, .int .i64 p.c.vi, .int .i64 p.c.he, .int .i64 p.c.re, .int .i64 p.c.la, .int .i64 p.c.ti, .int .i64 p.c.gr, .int .i64 p.c.ck, .slice A p.ops.length m, .slice B p.picks.length n]] w
      fun e w' => e = .returned (.bool (fewB p)) ∧ Below w.heap.size w w' := by
  have h1 := ho.le; have h2 := ho.top; have h3 := hp.le; have h4 := hp.top
  go_enter Try.func10, Try.ntmps10
  go_wp2
  generalize hW : (w.alloc _) = W
  have hbel : Below w.heap.size w W := by subst hW; exact Below.one _ _
  have e1 : W.cell? ⟨w.heap.size, 9, none⟩ = some (.slice A p.ops.length m) := by subst hW; go_simp
  have e2 : W.cell? ⟨w.heap.size, 10, none⟩ = some (.slice B p.picks.length n) := by subst hW; go_simp
  clear hW
  replace ho := ho.below hbel
  go_loop [8] (fun i => ∃ k : Nat, k ≤ p.ops.length ∧ i = .int .i64 k ∧ Hid (∀ j (hj : j < p.ops.length), j < k → p.ops[j].length ≤ 70)) (fun i => p.ops.length - (intOf i).toNat)
  case atStart => exact ⟨0, by omega, rfl, fun j _ h => by omega⟩
  case round =>
    obtain ⟨k, hk, rfl, hrel⟩ := hrel
    by_cases hlt : k < p.ops.length
    · obtain ⟨b, off, X, cX, rfl, hc1, hX⟩ := ho.sl_at hlt
      by_cases he : p.ops[k].length ≤ 70
      · have hrel' : Hid (∀ j (hj : j < p.ops.length), j < k + 1 → p.ops[j].length ≤ 70) := fun j hj hjk => by
          by_cases e : j = k
          · subst e; exact he
          · exact hrel.out j hj (by omega)
        clear hrel
        go_wp2
        go_round
        case rel => exact ⟨k + 1, by omega, by go_num, hrel'⟩
        case measure => simp [intOf]; omega
      · have hne : Hid (fewB p = false) := few_f hlt he
        go_wp2
        go_ret
        exact ⟨ret_bool hne.out.symm, hbel⟩
    · have he : Hid (fewB p = (decide (p.ops.length ≤ 10) && decide (p.picks.length ≤ 500))) := few_t fun j hj => hrel.out j hj (by omega)
      go_wp2
      all_goals go_ret
      all_goals (refine ⟨ret_bool ?_, hbel⟩; rw [he.out]; first | (rw [Bool.eq_iff_iff]; simp; omega) | trace_state)
end Go.Proofs.Ytnkcgakmajdmcaa
