/-
  The plain law: what script.Take makes of a plan's bytes is the plan.
-/
import Derived.Test.YtnkcgakmajdmcaaTakeLaw
namespace Go.Proofs.Ytnkcgakmajdmcaa
open Go.RowKit

theorem be2 (n : Int) : be n 2 2 = [n / 256 % 256, n % 256] := by simp [be, List.range_succ]
theorem be4 (n : Int) : be n 4 4 = [n / 16777216 % 256, n / 65536 % 256, n / 256 % 256, n % 256] := by simp [be, List.range_succ]
theorem rdV1 (a : Int) (l : List Int) : rdV (a :: l) 1 = a := by simp [rdV, val]
theorem rdV2 (a b : Int) (l : List Int) : rdV (a :: b :: l) 2 = a * 256 + b := by simp [rdV, val]; omega
theorem rdV4 (a b c d : Int) (l : List Int) : rdV (a :: b :: c :: d :: l) 4 = ((a * 256 + b) * 256 + c) * 256 + d := by simp [rdV, val]; omega
theorem okOp_shape {o : Oper} (h : okOp o = true) : (o.kind = 4 → o.p.k = 4) ∧ (o.kind ≠ 4 → o.v = 0) ∧ (o.p.k < 1 → o.p.a = 0) ∧ (o.p.k < 2 → o.p.b = 0) ∧ (o.p.k < 3 → o.p.c = 0) ∧ (o.p.k < 4 → o.p.d = 0) := by
  rcases o with ⟨x, ⟨a, b, c, d, k⟩, v⟩
  simp only [okOp, Path.zero, mayB, okN, Bool.and_eq_true, Bool.or_eq_true, decide_eq_true_eq, Path.mk.injEq] at h ⊢
  obtain ⟨⟨h, h1⟩, h2⟩ := h
  split at h2 <;> omega
theorem bnd2 {n : Int} (h : 0 ≤ n ∧ n ≤ 999) : n / 256 % 256 * 256 + n % 256 = n := by omega
theorem bnd4 {n : Int} (h : 0 ≤ n ∧ n ≤ 1073741824) : ((n / 16777216 % 256 * 256 + n / 65536 % 256) * 256 + n / 256 % 256) * 256 + n % 256 = n := by omega
theorem nums_zero (p : Path) : nums2 p 0 = [] := rfl
theorem nth0 (p : Path) : p.nth 0 = p.a := rfl
theorem nth1 (p : Path) : p.nth 1 = p.b := rfl
theorem nth2 (p : Path) : p.nth 2 = p.c := rfl
theorem nth3 (p : Path) : p.nth 3 = p.d := rfl

theorem of_back {o : Oper} (h : okOp o = true) (rest : List Int) : ofOp (putB o ++ rest) = o ∧ ofTotal (putB o ++ rest) = (putB o).length := by
  obtain ⟨⟨k1, k2⟩, ⟨d1, d2⟩, hv, ha, hb, hc, hd⟩ := okOp_bounds h
  obtain ⟨s1, s2, s3, s4, s5, s6⟩ := okOp_shape h
  have hw := bnd4 hv
  have ea := bnd2 ha; have eb := bnd2 hb; have ec := bnd2 hc; have ed := bnd2 (n := o.p.d) (by simpa using hd)
  have h8 : (o.kind * 8 + o.p.k) / 8 = o.kind := by omega
  have h9 : (o.kind * 8 + o.p.k) % 8 = o.p.k := by omega
  have hr : rdAt (putB o ++ rest) 0 1 = o.kind * 8 + o.p.k := by simp [rdAt, putB, rdV1]
  have hK : ofKind (putB o ++ rest) = o.kind := by rw [ofKind, hr, h8]
  have hDp : ofDepth (putB o ++ rest) = o.p.k := by rw [ofDepth, hr, h9]
  have hD : ofD (putB o ++ rest) = o.p.k.toNat := by rw [ofD, hDp]; omega
  have hl : (putB o).length = 1 + 2 * o.p.k.toNat + (if o.kind = 4 then 4 else 0) := by
    simp only [putB, List.length_append, nums2_length, List.length_singleton]
    split <;> simp [be_length]
  refine ⟨?_, by rw [ofTotal, hD, hK, hl]⟩
  have hk : o.p.k = 0 ∨ o.p.k = 1 ∨ o.p.k = 2 ∨ o.p.k = 3 ∨ o.p.k = 4 := by omega
  rw [ofOp, hD, hK, hDp]
  rcases o with ⟨x, ⟨a, b, c, d, k⟩, v⟩
  simp only at *
  clear hr hK hDp hD hl
  by_cases h4 : x = 4
  · subst h4
    obtain rfl := s1 rfl
    simp [ofNum, putB, nums2_succ, nums_zero, nth0, nth1, nth2, nth3, be2, be4, rdAt, rdV2, rdV4, show (4 : Int).toNat = 4 from rfl, ea, eb, ec, ed, hw]
  · obtain rfl := s2 h4
    rcases hk with rfl | rfl | rfl | rfl | rfl
    · simp [ofNum, h4, s3, s4, s5, s6]
    · simp [ofNum, putB, h4, nums2_succ, nums_zero, nth0, be2, rdAt, rdV2, ea, s4, s5, s6]
    · simp [ofNum, putB, h4, nums2_succ, nums_zero, nth0, nth1, be2, rdAt, rdV2, ea, eb, s5, s6, show (2 : Int).toNat = 2 from rfl]
    · simp [ofNum, putB, h4, nums2_succ, nums_zero, nth0, nth1, nth2, be2, rdAt, rdV2, ea, eb, ec, s6, show (3 : Int).toNat = 3 from rfl]
    · simp [ofNum, putB, h4, nums2_succ, nums_zero, nth0, nth1, nth2, nth3, be2, rdAt, rdV2, ea, eb, ec, ed, show (4 : Int).toNat = 4 from rfl]
theorem of_back_res {o : Oper} (h : okOp o = true) (rest : List Int) : ofRes (putB o ++ rest) = o ∧ ofLen (putB o ++ rest) = (putB o).length := by
  obtain ⟨h1, h2⟩ := of_back h rest
  have hok : ofOk (putB o ++ rest) = true := by simp [ofOk, h1, h2, h]
  rw [ofRes, ofLen, if_pos hok, if_pos hok]; exact ⟨h1, h2⟩

theorem run_one {cl : Int} (hcl : 1 ≤ cl ∧ cl ≤ 8) {i : Nat} (hi : (i : Int) < cl) {o : Oper} (h : okOp o = true) (rest : List Int) (fu : Nat) (ops : List (List Oper)) (picks : List Int) :
    runT (fu + 1) cl (oneB i o ++ rest) ops picks = runT fu cl rest (tOps i o ops) picks := by
  obtain ⟨h1, h2⟩ := of_back_res h rest
  have hidx : tIdx cl (128 + (i : Int)) = i := by
    unfold tIdx
    rw [show (128 + (i : Int) - 128) = (i : Int) by omega, Int.emod_eq_of_lt (by omega) hi]; rfl
  have : oneB i o ++ rest = (128 + (i : Int)) :: (putB o ++ rest) := by simp [oneB]
  rw [this, runT, if_neg (by omega), hidx, h1, h2, List.drop_left]

theorem run_list {cl : Int} (hcl : 1 ≤ cl ∧ cl ≤ 8) {i : Nat} (hi : (i : Int) < cl) (rest : List Int) (picks : List Int) : ∀ (l m : List Oper) (ops : List (List Oper)) (fu : Nat), ops[i]? = some m → m.length + l.length ≤ 64 → (∀ o ∈ l, okOp o = true) →
    (listB i l ++ rest).length ≤ fu → ∃ fu', rest.length ≤ fu' ∧ runT fu cl (listB i l ++ rest) ops picks = runT fu' cl rest (ops.set i (m ++ l)) picks := by
  intro l
  induction l with
  | nil =>
    intro m ops fu hm _ _ hfu
    refine ⟨fu, by simpa [listB] using hfu, ?_⟩
    have hi2 : i < ops.length := by
      rcases Nat.lt_or_ge i ops.length with q | q
      · exact q
      · rw [List.getElem?_eq_none q] at hm; cases hm
    have hgm : ops[i] = m := by rw [List.getElem?_eq_getElem hi2] at hm; injection hm
    have : ops.set i (m ++ []) = ops := by rw [List.append_nil, ← hgm]; exact List.set_getElem_self hi2
    rw [this]; simp [listB]
  | cons o l ih =>
    intro m ops fu hm hlen hok hfu
    have hi2 : i < ops.length := by
      rcases Nat.lt_or_ge i ops.length with q | q
      · exact q
      · rw [List.getElem?_eq_none q] at hm; cases hm
    have e1 : listB i (o :: l) ++ rest = oneB i o ++ (listB i l ++ rest) := by simp [listB]
    rw [e1] at hfu ⊢
    have hone : 1 ≤ (oneB i o).length := by simp [oneB]
    rw [List.length_append] at hfu
    obtain ⟨fu, rfl⟩ : ∃ k, fu = k + 1 := ⟨fu - 1, by omega⟩
    rw [run_one hcl hi (hok o (by simp))]
    simp only [List.length_cons] at hlen
    have ht : tOps i o ops = ops.set i (m ++ [o]) := by
      have : ops.getD i [] = m := by simp [List.getD, hm]
      rw [tOps, this, if_pos (by omega)]
    rw [ht]
    obtain ⟨fu', h1, h2⟩ := ih (m ++ [o]) (ops.set i (m ++ [o])) fu (by rw [List.getElem?_set_self hi2]) (by simp; omega) (fun x hx => hok x (by simp [hx])) (by omega)
    refine ⟨fu', h1, h2.trans ?_⟩
    rw [List.set_set, List.append_assoc]; rfl

theorem run_ops {cl : Int} (hcl : 1 ≤ cl ∧ cl ≤ 8) (ops : List (List Oper)) (hn : (ops.length : Int) = cl) (hg : ∀ j (hj : j < ops.length), goodL ops[j] = true) : ∀ (k : Nat), k ≤ ops.length → ∀ (rest : List Int) (fu : Nat),
    (opsB ops k ++ rest).length ≤ fu → ∃ fu', rest.length ≤ fu' ∧ runT fu cl (opsB ops k ++ rest) (List.replicate ops.length []) [] = runT fu' cl rest (ops.take k ++ List.replicate (ops.length - k) []) [] := by
  intro k
  induction k with
  | zero => intro _ rest fu hfu; exact ⟨fu, by simpa [opsB] using hfu, by simp [opsB]⟩
  | succ k ih =>
    intro hk rest fu hfu
    have hlt : k < ops.length := by omega
    rw [opsB_succ ops hlt, List.append_assoc] at hfu ⊢
    obtain ⟨fu1, h1, h2⟩ := ih (by omega) (listB k ops[k] ++ rest) fu hfu
    have hgk := hg k hlt
    simp only [goodL, Bool.and_eq_true, decide_eq_true_eq, List.all_eq_true] at hgk
    have hlk : (ops.take k).length = k := by rw [List.length_take]; omega
    have hst : (ops.take k ++ List.replicate (ops.length - k) ([] : List Oper))[k]? = some [] := by
      rw [List.getElem?_append_right (by omega), hlk, List.getElem?_replicate]; simp; omega
    obtain ⟨fu2, h3, h4⟩ := run_list hcl (i := k) (by omega) rest [] ops[k] [] _ fu1 hst (by simpa using hgk.1) hgk.2 h1
    refine ⟨fu2, h3, h2.trans (h4.trans ?_)⟩
    have : (ops.take k ++ List.replicate (ops.length - k) ([] : List Oper)).set k ([] ++ ops[k]) = ops.take (k + 1) ++ List.replicate (ops.length - (k + 1)) [] := by
      rw [List.set_append_right _ _ (by omega), hlk, Nat.sub_self, List.take_succ_eq_append_getElem hlt, show ops.length - k = (ops.length - (k + 1)) + 1 by omega, List.replicate_succ]
      simp only [List.nil_append, List.append_assoc, List.set_cons_zero, List.cons_append]
    rw [this]

theorem run_picks {cl : Int} (hcl : 1 ≤ cl ∧ cl ≤ 8) (ops : List (List Oper)) : ∀ (picks don : List Int) (fu : Nat), picks.length ≤ fu → don.length + picks.length ≤ 4096 → (∀ x ∈ picks, wi x 0 (cl + 1) = true) →
    runT fu cl picks ops don = (ops, don ++ picks) := by
  intro picks
  induction picks with
  | nil => intro don fu _ _ _; cases fu <;> simp [runT]
  | cons x picks ih =>
    intro don fu hfu hlen hx
    simp only [List.length_cons] at hfu hlen
    obtain ⟨fu, rfl⟩ : ∃ k, fu = k + 1 := ⟨fu - 1, by omega⟩
    have hb := wi_iff.1 (hx x (by simp))
    rw [runT, if_pos (by omega)]
    have ht : tPick cl x don = don ++ [x] := by
      rw [tPick, if_pos (by omega), Int.emod_eq_of_lt hb.1 (by omega)]
    rw [ht, ih (don ++ [x]) fu (by omega) (by simp; omega) fun y hy => hx y (by simp [hy])]
    simp

theorem take_back {p : Plan} (h : goodP p = true) : takeR p.c (opsB p.ops p.ops.length ++ p.picks) = (p.ops, p.picks) := by
  simp only [goodP, Bool.and_eq_true, decide_eq_true_eq, List.all_eq_true] at h
  obtain ⟨⟨⟨hr, hc⟩, hl, hk⟩, hg, hx⟩ := h
  have hcl : 1 ≤ p.c.cl ∧ p.c.cl ≤ 8 := by simp [rightB, right1, wi] at hr; omega
  rw [takeR, show p.c.cl.toNat = p.ops.length by omega]
  obtain ⟨fu, h1, h2⟩ := run_ops hcl p.ops hl (fun j hj => hg _ (List.getElem_mem hj)) p.ops.length (Nat.le_refl _) p.picks _ (Nat.le_refl _)
  rw [h2, List.take_length, Nat.sub_self, run_picks hcl _ p.picks [] fu h1 (by simpa using hk) hx]
  simp
theorem cfg_back {p : Plan} (h : goodP p = true) : cfgOf (p.c.cl - 1) p.c.po p.c.vi (p.c.he - 1) ((p.c.re - 1) / 4) (p.c.la - 1) (cb6 p.c) p.c.gr = p.c := by
  simp only [goodP, Bool.and_eq_true] at h
  have := h.1.1.2
  simpa [isCfg, eqC] using this
theorem planB_bytes {p : Plan} (h : goodP p = true) : (∀ b ∈ opsB p.ops p.ops.length ++ p.picks, isB b) ∧ isB (p.c.cl - 1) ∧ isB p.c.po ∧ isB p.c.vi ∧ isB (p.c.he - 1) ∧ isB ((p.c.re - 1) / 4) ∧ isB (p.c.la - 1) ∧ isB (cb6 p.c) ∧ isB p.c.gr := by
  simp only [goodP, Bool.and_eq_true, decide_eq_true_eq, List.all_eq_true] at h
  obtain ⟨⟨⟨hr, hc⟩, hl, hk⟩, hg, hx⟩ := h
  have hb : (1 ≤ p.c.cl ∧ p.c.cl ≤ 8) ∧ (1 ≤ p.c.he ∧ p.c.he ≤ 256) ∧ (1 ≤ p.c.re ∧ p.c.re ≤ 1024) ∧ (1 ≤ p.c.la ∧ p.c.la ≤ 64) ∧ (0 ≤ p.c.po ∧ p.c.po ≤ 3) ∧ (0 ≤ p.c.vi ∧ p.c.vi ≤ 1) ∧ (1 ≤ p.c.ti ∧ p.c.ti ≤ 1000) ∧ 0 ≤ p.c.gr ∧ p.c.gr ≤ 100 := by
    simp [rightB, right1, right2, right3, wi] at hr; omega
  refine ⟨fun b hb' => ?_, ⟨by omega, by omega⟩, ⟨by omega, by omega⟩, ⟨by omega, by omega⟩, ⟨by omega, by omega⟩, ⟨by omega, by omega⟩, ⟨by omega, by omega⟩, ⟨by unfold cb6; omega, by unfold cb6; omega⟩, ⟨by omega, by omega⟩⟩
  rcases List.mem_append.1 hb' with hb' | hb'
  · simp only [opsB, List.mem_flatMap, List.mem_range, listB] at hb'
    obtain ⟨j, hj, o, ho, hbo⟩ := hb'
    have hgj := hg (p.ops.getD j []) (by simp [List.getD, hj])
    simp only [goodL, Bool.and_eq_true, decide_eq_true_eq, List.all_eq_true] at hgj
    have hoo := hgj.2 o ho
    obtain ⟨⟨k1, k2⟩, ⟨d1, d2⟩, _⟩ := okOp_bounds hoo
    simp only [oneB, List.mem_append, List.mem_singleton] at hbo
    rcases hbo with rfl | hbo
    · exact ⟨by omega, by omega⟩
    · have hbe : ∀ (n : Int) (s k : Nat), ∀ y ∈ be n s k, isB y := by
        intro n s k y hy
        simp only [be, List.mem_map] at hy
        obtain ⟨_, _, rfl⟩ := hy
        exact ⟨Int.emod_nonneg _ (by decide), Int.emod_lt_of_pos _ (by decide)⟩
      simp only [putB, List.mem_append, List.mem_singleton] at hbo
      rcases hbo with (rfl | hbo) | hbo
      · exact ⟨by omega, by omega⟩
      · simp only [nums2, List.mem_flatMap] at hbo
        obtain ⟨q, _, hq⟩ := hbo
        exact hbe _ _ _ _ hq
      · split at hbo
        · exact hbe _ _ _ _ hbo
        · cases hbo
  · have := wi_iff.1 (hx b hb')
    exact ⟨by omega, by omega⟩
end Go.Proofs.Ytnkcgakmajdmcaa
