/-
  The walk through script.Put, where the machine may be: the loops over operations and picks.
-/
import Derived.Test.YtnkcgakmajdmcaaScriptPut
namespace Go.Proofs.Ytnkcgakmajdmcaa
open Go.RowKit

theorem head8_len (c : Cfg) : (head8 c).length = 8 := rfl
theorem opsB_succ (ops : List (List Oper)) {k : Nat} (hk : k < ops.length) : opsB ops (k + 1) = opsB ops k ++ listB k ops[k] := by
  simp [opsB, List.range_succ, hk]
theorem listB_take (i : Nat) (l : List Oper) {j : Nat} (hj : j < l.length) : listB i (l.take (j + 1)) = listB i (l.take j) ++ oneB i l[j] := by
  rw [List.take_succ_eq_append_getElem hj, listB, listB, List.flatMap_append]; simp
theorem putB_len (o : Oper) : (putB o).length ≤ 2 * o.p.k.toNat + 5 := by
  simp only [putB, List.length_append, nums2_length, List.length_singleton]
  split
  · rw [be_length]; omega
  · simp; omega
theorem putB_ne (o : Oper) : putB o ≠ [] := by simp [putB]
theorem listB_len (i : Nat) (l : List Oper) (h : ∀ o ∈ l, okOp o = true) : (listB i l).length ≤ 14 * l.length := by
  induction l with
  | nil => simp [listB]
  | cons o l ih =>
    have h1 := putB_len o
    have h2 := (okOp_bounds (h o (by simp))).2.1
    have h3 := ih fun x hx => h x (by simp [hx])
    simp only [listB, List.flatMap_cons, List.length_append, List.length_cons, oneB, List.length_singleton] at h3 ⊢
    have h4 : ([] : List Int).length = 0 := rfl
    omega
theorem opsB_len (ops : List (List Oper)) (k : Nat) (hk : k ≤ ops.length) (h : ∀ j (hj : j < ops.length), j < k → goodL ops[j] = true) : (opsB ops k).length ≤ 896 * k := by
  induction k with
  | zero => simp [opsB]
  | succ k ih =>
    have hlt : k < ops.length := by omega
    rw [opsB_succ ops hlt, List.length_append]
    have h1 := ih (by omega) fun j hj hjk => h j hj (by omega)
    have h2 := h k hlt (by omega)
    simp only [goodL, Bool.and_eq_true, decide_eq_true_eq, List.all_eq_true] at h2
    have h3 := listB_len k ops[k] h2.2
    omega
theorem goodP_badL {p : Plan} {k : Nat} (hk : k < p.ops.length) (h : goodL p.ops[k] = false) : goodP p = false := by
  have : p.ops.all goodL = false := by rw [List.all_eq_false]; exact ⟨p.ops[k], List.getElem_mem hk, by simp [h]⟩
  simp [goodP, this]
theorem goodP_badX {p : Plan} {k : Nat} (hk : k < p.picks.length) (h : wi p.picks[k] 0 (p.c.cl + 1) = false) : goodP p = false := by
  have : (p.picks.all fun x => wi x 0 (p.c.cl + 1)) = false := by rw [List.all_eq_false]; exact ⟨p.picks[k], List.getElem_mem hk, by simp [h]⟩
  simp [goodP, this]
theorem goodL_badO {l : List Oper} {j : Nat} (hj : j < l.length) (h : okOp l[j] = false) : goodL l = false := by
  have : l.all okOp = false := by rw [List.all_eq_false]; exact ⟨l[j], List.getElem_mem hj, by simp [h]⟩
  simp [goodL, this]

set_option maxRecDepth 100000 in
set_option maxHeartbeats 4000000 in
theorem sput_main (p : Plan) (A B : Option Addr) (m n : Nat) (w : World) (ho : Sl (kSl kOper) w A m p.ops) (hp : Sl kInt w B n p.picks) (hr : rightB p.c = true) (hcf : isCfg p.c = true)
    (hl : (p.ops.length : Int) = p.c.cl) (hk : p.picks.length ≤ 4096) :
    Calls Try.prog 11 #[
      .agg #[.int .i64 p.c.cl, .int .i64 p.c.po, .int .i64 p.c.vi, .int .i64 p.c.he, .int .i64 p.c.re, .int .i64 p.c.la, .int .i64 p.c.ti, .int .i64 p.c.gr, .int .i64 p.c.ck, .slice A p.ops.length m, .slice B p.picks.length n]] w (PPost p w) := by
  have h1 := ho.le; have h2 := ho.top; have h3 := hp.le; have h4 := hp.top
  have hcl : 1 ≤ p.c.cl ∧ p.c.cl ≤ 8 := by simp [rightB, right1, wi] at hr; omega
  have hlb : ((p.ops.length : Int) != p.c.cl) = false := by simp [hl]
  have hn8 : p.ops.length ≤ 8 := by omega
  obtain ⟨hcl1, hcl2⟩ := hcl
  have HL := Lib.hid hl; clear hl
  have HR := Lib.hid hr; clear hr
  go_enter Try.func11, Try.ntmps11
  go_upto_region 6 with (go_at_call 53; refine (bytes_yes p.c _ HR.out).mono ?_; rintro e w1 ⟨rfl, hb⟩; have hzz := hb.size; (simp at hzz); have hlt : w.heap.size < w1.heap.size := (by omega); obtain ⟨hc, hf, hz⟩ := bcell hb; (try simp only [World.size_drew, World.cell?_drew, World.frozen?_drew] at hc hf hz))
  have k0 := blk_old (o := .cells #[.int .u8 (p.c.cl - 1), .int .u8 p.c.po, .int .u8 p.c.vi, .int .u8 (p.c.he - 1), .int .u8 ((p.c.re - 1) / 4), .int .u8 (p.c.la - 1), .int .u8 (cb6 p.c), .int .u8 p.c.gr] 101) (blk_below hb (blk_new w _ _ rfl))
  have hbel := (Below.after1 hb).alloc (Nat.le_of_lt hlt) (.cells #[.int .u8 (p.c.cl - 1), .int .u8 p.c.po, .int .u8 p.c.vi, .int .u8 (p.c.he - 1), .int .u8 ((p.c.re - 1) / 4), .int .u8 (p.c.la - 1), .int .u8 (cb6 p.c), .int .u8 p.c.gr] 101)
  have k1 := blk_new w1 (.cells #[.int .u8 (p.c.cl - 1), .int .u8 p.c.po, .int .u8 p.c.vi, .int .u8 (p.c.he - 1), .int .u8 ((p.c.re - 1) / 4), .int .u8 (p.c.la - 1), .int .u8 (cb6 p.c), .int .u8 p.c.gr] 101) _ rfl
  have hz2 : w1.heap.size < (w1.alloc (.cells #[.int .u8 (p.c.cl - 1), .int .u8 p.c.po, .int .u8 p.c.vi, .int .u8 (p.c.he - 1), .int .u8 ((p.c.re - 1) / 4), .int .u8 (p.c.la - 1), .int .u8 (cb6 p.c), .int .u8 p.c.gr] 101)).heap.size := by simp
  clear hc hf hz hzz hb
  generalize (w1.alloc (.cells #[.int .u8 (p.c.cl - 1), .int .u8 p.c.po, .int .u8 p.c.vi, .int .u8 (p.c.he - 1), .int .u8 ((p.c.re - 1) / 4), .int .u8 (p.c.la - 1), .int .u8 (cb6 p.c), .int .u8 p.c.gr] 101)) = W at *
  have ha : AccF encB 1 5 (w.heap.size + 1) W (.slice (some ⟨w1.heap.size, 0, none⟩) 8 8) (head8 p.c) := by
    refine .inr ⟨w1.heap.size, rfl, hlt, hz2, by simp [head8_len], fun j u hj => ?_⟩
    have e1 : (head8 p.c).flatMap encB = [.int .u8 (p.c.cl - 1), .int .u8 p.c.po, .int .u8 p.c.vi, .int .u8 (p.c.he - 1), .int .u8 ((p.c.re - 1) / 4), .int .u8 (p.c.la - 1), .int .u8 (cb6 p.c), .int .u8 p.c.gr] := rfl
    rw [e1] at hj
    exact blk_cell k1 j (by simpa using hj)
  clear k1
  go_loopw [6, 40] (fun b i wr => ∃ k : Nat, k ≤ p.ops.length ∧ i = .int .i64 k ∧ Hid (∀ j (hj : j < p.ops.length), j < k → goodL p.ops[j] = true) ∧ AccF encB 1 5 (w.heap.size + 1) wr b (head8 p.c ++ opsB p.ops k) ∧ Below w.heap.size w wr ∧ w.heap.size < wr.heap.size ∧
      wr.heap[w.heap.size]? = some (.cells #[.int .i64 p.c.cl, .int .i64 p.c.po, .int .i64 p.c.vi, .int .i64 p.c.he, .int .i64 p.c.re, .int .i64 p.c.la, .int .i64 p.c.ti, .int .i64 p.c.gr, .int .i64 p.c.ck, .slice A p.ops.length m, .slice B p.picks.length n] 27 (0, 0))) (fun _ i _ => p.ops.length - (intOf i).toNat)
  case atStart => exact ⟨0, by omega, rfl, fun j _ h => by omega, by simpa [opsB] using ha, hbel, Nat.lt_trans hlt hz2, k0⟩
  case round =>
    clear hbel hz2 k0 ha hlt
    obtain ⟨k, hk1, rfl, hgo, ha, hbel, hz2, k0⟩ := hrel
    by_cases hlt : k < p.ops.length
    · obtain ⟨b0, off, X, cX, rfl, hc0, hX⟩ := ho.sl_at hlt
      have hc1 := cell_below hbel hc0
      have hx1 := hX.le; have hx2 := hX.top
      by_cases h64 : p.ops[k].length ≤ 64
      · go_upto_region 11 with (fail)
        go_loopw [6, 50] (fun b i wq => ∃ j : Nat, j ≤ p.ops[k].length ∧ i = .int .i64 j ∧ Hid (∀ q (hq : q < p.ops[k].length), q < j → okOp p.ops[k][q] = true) ∧ AccF encB 1 5 (w.heap.size + 1) wq b (head8 p.c ++ opsB p.ops k ++ listB k (p.ops[k].take j)) ∧ Below w.heap.size w wq ∧ w.heap.size < wq.heap.size ∧
          wq.heap[w.heap.size]? = some (.cells #[.int .i64 p.c.cl, .int .i64 p.c.po, .int .i64 p.c.vi, .int .i64 p.c.he, .int .i64 p.c.re, .int .i64 p.c.la, .int .i64 p.c.ti, .int .i64 p.c.gr, .int .i64 p.c.ck, .slice (some ⟨b0, off, none⟩) p.ops.length m, .slice B p.picks.length n] 27 (0, 0))) (fun _ i _ => p.ops[k].length - (intOf i).toNat)
        case atStart => exact ⟨0, by omega, rfl, fun q _ h => by omega, by simpa [listB] using ha, hbel, hz2, k0⟩
        case round =>
          clear ha hbel hz2 hc1 k0
          obtain ⟨j, hj1, rfl, hgq, ha, hbel, hz2, k0⟩ := hrel
          by_cases hjl : j < p.ops[k].length
          · obtain ⟨bx, offx, rfl, f0, f1, f2, f3, f4, f5, f6⟩ := (hX.below hbel).oper_at hjl
            generalize hO : p.ops[k][j] = o at *
            have HO := Lib.hid hO; clear hO
            go_upto_region 13 with (fail)
            have hneH : some wr.heap.size ≠ u6.ownBlock := fun e => by have := (ha.base_ _ e.symm).2; omega
            have ha2 := ha.one (.cells #[.int .i64 o.kind, .int .i64 o.p.a, .int .i64 o.p.b, .int .i64 o.p.c, .int .i64 o.p.d, .int .i64 o.p.k, .int .i64 o.v] 50)
            have hbel2 := hbel.alloc (Nat.le_of_lt hz2) (.cells #[.int .i64 o.kind, .int .i64 o.p.a, .int .i64 o.p.b, .int .i64 o.p.c, .int .i64 o.p.d, .int .i64 o.p.k, .int .i64 o.v] 50)
            have k02 := blk_old (o := .cells #[.int .i64 o.kind, .int .i64 o.p.a, .int .i64 o.p.b, .int .i64 o.p.c, .int .i64 o.p.d, .int .i64 o.p.k, .int .i64 o.v] 50) k0
            have k12 := blk_new wr (.cells #[.int .i64 o.kind, .int .i64 o.p.a, .int .i64 o.p.b, .int .i64 o.p.c, .int .i64 o.p.d, .int .i64 o.p.k, .int .i64 o.v] 50) _ rfl
            have hz4 : wr.heap.size < (wr.alloc (.cells #[.int .i64 o.kind, .int .i64 o.p.a, .int .i64 o.p.b, .int .i64 o.p.c, .int .i64 o.p.d, .int .i64 o.p.k, .int .i64 o.v] 50)).heap.size := by simp
            clear ha hbel k0 f0 f1 f2 f3 f4 f5 f6
            generalize (wr.alloc (.cells #[.int .i64 o.kind, .int .i64 o.p.a, .int .i64 o.p.b, .int .i64 o.p.c, .int .i64 o.p.d, .int .i64 o.p.k, .int .i64 o.v] 50)) = W2 at *
            generalize wr.heap.size = H at *
            by_cases hok : okOp o = true
            · have hcb : (checkN o != 0) = false := by simp [checkN, hok]
              have HK := Lib.hid hok; clear hok
              have e0 := blk_cell k12 0 rfl; have e1 := blk_cell k12 1 rfl; have e2 := blk_cell k12 2 rfl; have e3 := blk_cell k12 3 rfl; have e4 := blk_cell k12 4 rfl; have e5 := blk_cell k12 5 rfl; have e6 := blk_cell k12 6 rfl
              go_upto_region 15 with (go_at_call 54; refine (check_any o _).mono ?_; rintro e w3 ⟨rfl, hb⟩)
              replace ha2 := ha2.below hb
              replace hbel2 := hbel2.trans (hb.mono (Nat.le_trans (Nat.le_of_lt hz2) (Nat.le_of_lt hz4)))
              replace k02 := blk_below hb k02
              replace hz4 := Nat.lt_of_lt_of_le hz4 hb.size
              replace e0 := cell_below hb e0; replace e1 := cell_below hb e1; replace e2 := cell_below hb e2; replace e3 := cell_below hb e3; replace e4 := cell_below hb e4; replace e5 := cell_below hb e5; replace e6 := cell_below hb e6
              clear hb k12
              have hlx : (head8 p.c ++ opsB p.ops k ++ listB k (p.ops[k].take j)).length ≤ 100000 := by
                have l1 := opsB_len p.ops k hk1 hgo.out
                have l2 := listB_len k (p.ops[k].take j) (fun x hx => by
                  obtain ⟨q, hq, rfl⟩ := List.getElem_of_mem hx
                  rw [List.length_take] at hq
                  rw [List.getElem_take]; exact hgq.out q (by omega) (by omega))
                have l3 : (p.ops[k].take j).length ≤ j := List.length_take_le _ _
                simp only [List.length_append, head8_len]; omega
              generalize hXS : head8 p.c ++ opsB p.ops k ++ listB k (p.ops[k].take j) = XS at *
              have HXS := Lib.hid hXS; clear hXS
              have hHB : w.heap.size + 1 ≤ H := hz2
              have hpl : (putB o).length ≤ 13 := by have h1 := putB_len o; have h2 := (okOp_bounds HK.out).2.1; omega
              have hw1 : IntKind.i64.wrap (128 + (k : Int)) = 128 + (k : Int) := IntWalk.i64_in _ (by omega)
              have hw2 : IntKind.u8.wrap (128 + (k : Int)) = 128 + (k : Int) := IntWalk.u8_in _ (by omega)
              go_region_held_law (fun w' => w'.cell? ⟨H, 0, none⟩ = some (.int .i64 o.kind) ∧ w'.cell? ⟨H, 1, none⟩ = some (.int .i64 o.p.a) ∧ w'.cell? ⟨H, 2, none⟩ = some (.int .i64 o.p.b) ∧ w'.cell? ⟨H, 3, none⟩ = some (.int .i64 o.p.c) ∧ w'.cell? ⟨H, 4, none⟩ = some (.int .i64 o.p.d) ∧ w'.cell? ⟨H, 5, none⟩ = some (.int .i64 o.p.k) ∧ w'.cell? ⟨H, 6, none⟩ = some (.int .i64 o.v)) (go_keep)
                (first
                  | (go_at_call 55; refine (put_ok o HK.out _).mono ?_; rintro e w6 ⟨v2, rfl, ho2, hbP⟩; have ho3 := ho1.below hbP; obtain ⟨A2, c2, rfl, hs2⟩ := ho2.sl encB_len; obtain ⟨hc, hf, hz⟩ := bcell hbP; (try simp only [World.size_drew, World.cell?_drew, World.frozen?_drew] at hc hf hz))
                  | (refine stepS encB 1 encB_len encB_one (w.heap.size + 1) rfl (.tmp 57) (.tmp 61) 30 5 (.int .u8 0) 1 rfl Try.underlying30 infoByte rfl (by decide) (by decide) u6 XS [128 + (k : Int)] (some ⟨w3.heap.size, 0, none⟩) 1 rfl rfl (by simp) ((sl_lit1 encB 1 w3 5 (128 + (k : Int)) rfl).below (Below.refl _ _).drew) (ha2.one _).drew ?_ ?_ ?_; (show w.heap.size + 1 ≤ (w3.heap.push _).size; simp; omega); (simp; omega); intro v1 w5 ho1 hg1 hm1; have hz5 := hg1.size; have hz6 : H < w5.heap.size := (by simp at hz5; omega); have hbel5 := (hbel2.alloc hbel2.size _).drew.grown hg1 (Nat.le_trans hbel2.size (by simp)) (fun q hq => by have := (ha2.base_ q hq).1; omega); have k05 := blk_grown (blk_drew (blk_old k02)) hg1 (ha2.ne (Nat.lt_succ_self _)); have q0 := hg1.cell (cell_drew (cell_one e0 _)) hneH; have q1 := hg1.cell (cell_drew (cell_one e1 _)) hneH; have q2 := hg1.cell (cell_drew (cell_one e2 _)) hneH; have q3 := hg1.cell (cell_drew (cell_one e3 _)) hneH; have q4 := hg1.cell (cell_drew (cell_one e4 _)) hneH; have q5 := hg1.cell (cell_drew (cell_one e5 _)) hneH; have q6 := hg1.cell (cell_drew (cell_one e6 _)) hneH)
                  | (refine stepS encB 1 encB_len encB_one (w.heap.size + 1) rfl (.tmp 62) (.tmp 64) 30 5 (.int .u8 0) 1 rfl Try.underlying30 infoByte rfl (by decide) (by decide) v1 (XS ++ [128 + (k : Int)]) (putB o) A2 c2 rfl rfl (putB_ne o) hs2 ho3.acc ?_ ?_ ?_; (have := hbP.size; omega); (simp; omega); intro v7 w7 ho7 hg7 hm7; have hne1 := hm1.ne (k := H) (show H < (w3.heap.push _).size by simp; omega) hneH; have r0 := hg7.cell (cell_below hbP q0) hne1; have r1 := hg7.cell (cell_below hbP q1) hne1; have r2 := hg7.cell (cell_below hbP q2) hne1; have r3 := hg7.cell (cell_below hbP q3) hne1; have r4 := hg7.cell (cell_below hbP q4) hne1; have r5 := hg7.cell (cell_below hbP q5) hne1; have r6 := hg7.cell (cell_below hbP q6) hne1))
              go_wp2
              go_roundw
              case rel =>
                refine ⟨j + 1, by omega, by go_num, fun q hq hqj => ?_, ?_, (hbel5.trans (hbP.mono hbel5.size)).grown hg7 (by have := hbel5.size; omega) (fun q hq => by have := (ho3.base_ q hq); omega), by have := hg7.size; omega, blk_grown (blk_below hbP k05) hg7 (ho3.ne (Nat.lt_succ_self _))⟩
                · by_cases e : q = j
                  · subst e; rw [HO.out]; exact HK.out
                  · exact hgq.out q hq (by omega)
                · rw [listB_take k p.ops[k] hjl, HO.out, ← List.append_assoc, HXS.out]
                  rw [List.append_assoc] at ho7; exact ho7.acc
              case measure => simp [intOf] <;> omega
            · have hcb : (checkN o != 0) = true := by simp [checkN, hok]
              have hg : Hid (goodP p = false) := goodP_badL hlt (goodL_badO hjl (by rw [HO.out]; simpa using hok))
              clear hok
              have e0 := blk_cell k12 0 rfl; have e1 := blk_cell k12 1 rfl; have e2 := blk_cell k12 2 rfl; have e3 := blk_cell k12 3 rfl; have e4 := blk_cell k12 4 rfl; have e5 := blk_cell k12 5 rfl; have e6 := blk_cell k12 6 rfl
              go_wp2_with (go_at_call 54; refine (check_any o _).mono ?_; rintro e w3 ⟨rfl, hb⟩)
              go_ret2
              exact ppost_no hg.out (hbel2.trans (hb.mono (by omega)))
          · obtain rfl : j = p.ops[k].length := by omega
            have hgk : goodL p.ops[k] = true := by
              simp only [goodL, Bool.and_eq_true, decide_eq_true_eq, List.all_eq_true]
              refine ⟨h64, fun x hx => ?_⟩
              obtain ⟨q, hq, rfl⟩ := List.getElem_of_mem hx
              exact hgq.out q hq hq
            have HGK := Lib.hid hgk; clear hgk
            go_wp2
            go_roundw
            case rel =>
              refine ⟨k + 1, by omega, by go_num, fun q hq hqk => ?_, ?_, hbel, hz2, k0⟩
              · by_cases e : q = k
                · subst e; exact HGK.out
                · exact hgo.out q hq (by omega)
              · rw [List.take_length] at ha
                rw [opsB_succ p.ops hlt, ← List.append_assoc]; exact ha
            case measure => simp [intOf] <;> omega
      · have hg : Hid (goodP p = false) := goodP_badL hlt (by simp [goodL, h64])
        go_wp2
        go_ret2
        exact ppost_no hg.out hbel
    · obtain rfl : k = p.ops.length := by omega
      have hgall : Hid (p.ops.all goodL = true) := by
        show _ = _
        rw [List.all_eq_true]
        intro x hx
        obtain ⟨q, hq, rfl⟩ := List.getElem_of_mem hx
        exact hgo.out q hq hq
      have hlo := opsB_len p.ops p.ops.length (Nat.le_refl _) hgo.out
      clear hgo
      have e0 := blk_cell k0 0 rfl; have e10 := blk_cell k0 10 rfl
      go_upto_region 19 with (fail)
      have hp1 := hp.le; have hp2 := hp.top
      clear e10
      go_loopw [6, 71] (fun b i wq => ∃ j : Nat, j ≤ p.picks.length ∧ i = .int .i64 j ∧ Hid (∀ q (hq : q < p.picks.length), q < j → wi p.picks[q] 0 (p.c.cl + 1) = true) ∧ AccF encB 1 5 (w.heap.size + 1) wq b (head8 p.c ++ opsB p.ops p.ops.length ++ p.picks.take j) ∧ Below w.heap.size w wq ∧ w.heap.size < wq.heap.size ∧
        wq.heap[w.heap.size]? = some (.cells #[.int .i64 p.c.cl, .int .i64 p.c.po, .int .i64 p.c.vi, .int .i64 p.c.he, .int .i64 p.c.re, .int .i64 p.c.la, .int .i64 p.c.ti, .int .i64 p.c.gr, .int .i64 p.c.ck, .slice A p.ops.length m, .slice B p.picks.length n] 27 (0, 0))) (fun _ i _ => p.picks.length - (intOf i).toNat)
      case atStart => exact ⟨0, by omega, rfl, fun q _ h => by omega, by simpa using ha, hbel, hz2, k0⟩
      case round =>
        clear ha hbel hz2 k0 e0
        obtain ⟨j, hj1, rfl, hgq, ha, hbel, hz2, k0⟩ := hrel
        have e0 := blk_cell k0 0 rfl
        by_cases hjl : j < p.picks.length
        · obtain ⟨bx, offx, rfl, f0⟩ := (hp.below hbel).int_at hjl
          generalize hX : p.picks[j] = x at *
          have HX := Lib.hid hX; clear hX
          by_cases hwx : wi x 0 (p.c.cl + 1) = true
          · have hwb : 0 ≤ x ∧ x ≤ p.c.cl + 1 := wi_iff.1 hwx
            obtain ⟨hwb1, hwb2⟩ := hwb
            have hlx : (head8 p.c ++ opsB p.ops p.ops.length ++ p.picks.take j).length ≤ 100000 := by
              have l3 : (p.picks.take j).length ≤ j := List.length_take_le _ _
              simp only [List.length_append, head8_len]; omega
            generalize hXS : head8 p.c ++ opsB p.ops p.ops.length ++ p.picks.take j = XS at *
            have HXS := Lib.hid hXS; clear hXS
            go_wp2_with (first
              | (go_at_call 56; refine (within_any x 0 (p.c.cl + 1) _).mono ?_; rintro e w5 ⟨rfl, rfl⟩)
              | (at_builtin; refine appendS encB 1 encB_len encB_one (w.heap.size + 1) rfl (.tmp 82) (.tmp 85) 30 5 (.int .u8 0) 1 rfl Try.underlying30 infoByte rfl (by decide) (by decide) u6 XS [x] (some ⟨wr.heap.size, 0, none⟩) 1 rfl rfl (by simp) (sl_lit1 encB 1 wr 5 x rfl) (ha.one _) ?_ ?_ ?_; (show w.heap.size + 1 ≤ (wr.heap.push _).size; simp; omega); (simp; omega); intro v1 w5 ho1 hg1 hm1; have hz5 := hg1.size; have hz6 : w.heap.size < w5.heap.size := (by simp at hz5; omega); have hbel5 := (hbel.alloc hbel.size _).grown hg1 (Nat.le_trans hbel.size (by simp)) (fun q hq => by have := (ha.base_ q hq).1; omega); have k05 := blk_grown (blk_old k0) hg1 (ha.ne (Nat.lt_succ_self _))))
            go_roundw
            case rel =>
              refine ⟨j + 1, by omega, by go_num, fun q hq hqj => ?_, ?_, hbel5, hz6, k05⟩
              · by_cases e : q = j
                · subst e; rw [HX.out]; exact hwx
                · exact hgq.out q hq (by omega)
              · rw [List.take_succ_eq_append_getElem hjl, HX.out, ← List.append_assoc, HXS.out]
                exact ho1.acc
            case measure => simp [intOf] <;> omega
          · have hwf : wi x 0 (p.c.cl + 1) = false := by simpa using hwx
            have hg : Hid (goodP p = false) := goodP_badX hjl (by rw [HX.out]; exact hwf)
            clear hwx
            go_wp2_with (go_at_call 56; refine (within_any x 0 (p.c.cl + 1) _).mono ?_; rintro e w5 ⟨rfl, rfl⟩)
            go_ret2
            exact ppost_no hg.out hbel
        · obtain rfl : j = p.picks.length := by omega
          have hgp : Hid (goodP p = true) := by
            have hx : (p.picks.all fun x => wi x 0 (p.c.cl + 1)) = true := by
              rw [List.all_eq_true]
              intro x hx
              obtain ⟨q, hq, rfl⟩ := List.getElem_of_mem hx
              exact hgq.out q hq hq
            show _ = _
            simp only [goodP, HR.out, hcf, HL.out, hk, hgall.out, hx, decide_true, Bool.and_self]
          go_wp2
          go_ret2
          rw [List.take_length] at ha
          exact ppost_yes hgp.out (ha.lower (Nat.le_succ _)) hbel
end Go.Proofs.Ytnkcgakmajdmcaa
