/-
  The walk through script.Take: the plan of bytes.
-/
import Derived.Test.YtnkcgakmajdmcaaTakeLaw
import Derived.Laws.CopyOwn
import Derived.Laws.MakeOwn
namespace Go.Proofs.Ytnkcgakmajdmcaa
open Go.RowKit

def TPost (p : Plan) (w : World) (e : Ending) (w' : World) : Prop := ∃ A B m n,
  e = .returned (.agg #[.int .i64 p.c.cl, .int .i64 p.c.po, .int .i64 p.c.vi, .int .i64 p.c.he, .int .i64 p.c.re, .int .i64 p.c.la, .int .i64 p.c.ti, .int .i64 p.c.gr, .int .i64 p.c.ck, .slice A p.ops.length m, .slice B p.picks.length n]) ∧
  Sl (kSl kOper) w' A m p.ops ∧ Sl kInt w' B n p.picks ∧ Below w.heap.size w w'

theorem infoSlOp : (Try.prog.info? 100).map (fun i => (i.zero, i.size, i.bytes)) = some (some (.slice none 0 0), 1, 24) := by kernel_rfl
theorem made_nil (n : Nat) : madeCells (Value.slice none 0 0).cells (n * 1) = (List.replicate n (Value.slice none 0 0)).toArray := by
  apply Array.ext
  · simp [size_madeCells]
  · intro i h1 h2
    simp [madeCells, Value.cells, Nat.mod_one]

theorem Sl.head8 {f0 f1 f2 f3 f4 f5 f6 f7 : Int} {rest : List Int} {w : World} {A : Option Addr} {c : Nat} (h : Sl kByte w A c ([f0, f1, f2, f3, f4, f5, f6, f7] ++ rest)) :
    ∃ g off, A = some ⟨g, off, none⟩ ∧ ∀ j v, ([.int .u8 f0, .int .u8 f1, .int .u8 f2, .int .u8 f3, .int .u8 f4, .int .u8 f5, .int .u8 f6, .int .u8 f7] : List Value)[j]? = some v → w.cell? ((⟨g, off, none⟩ : Addr).add j) = some v := by
  obtain ⟨g, off, _, rfl, _, _⟩ := h.get 0 f0 rfl
  refine ⟨g, off, rfl, fun j v hv => ?_⟩
  have hj : j < 8 := by
    rcases Nat.lt_or_ge j 8 with q | q
    · exact q
    · rw [List.getElem?_eq_none (by simpa using q)] at hv; cases hv
  have h8 : ∃ x, ([f0, f1, f2, f3, f4, f5, f6, f7] : List Int)[j]? = some x ∧ v = .int .u8 x := by
    have hj' : j = 0 ∨ j = 1 ∨ j = 2 ∨ j = 3 ∨ j = 4 ∨ j = 5 ∨ j = 6 ∨ j = 7 := by omega
    rcases hj' with rfl | rfl | rfl | rfl | rfl | rfl | rfl | rfl <;> (simp at hv; exact ⟨_, rfl, hv.symm⟩)
  obtain ⟨x, hx, rfl⟩ := h8
  obtain ⟨g', off', cs, he, hk, hc⟩ := h.get j x (by rw [List.getElem?_append_left (by simpa using hj)]; exact hx)
  injection he with he; injection he with h1 h2
  subst h1; subst h2
  rw [addr_add]
  have hk' : cs = [.int .u8 x] := hk
  subst hk'
  simpa [kByte, flat] using hc 0 _ rfl

theorem Sl.drop8 {l rest : List Int} {w : World} {g off c : Nat} (h : Sl kByte w (some ⟨g, off, none⟩) c (l ++ rest)) (hl : l.length = 8) :
    Sl kByte w (some ⟨g, off + 8, none⟩) (c - 8) rest ∧ (c = 8 → Sl kByte w (some ⟨g, off, none⟩) 0 rest) := by
  have h1 := h.le; have h2 := h.top
  rw [List.length_append, hl] at h1
  refine ⟨⟨by omega, by omega, (fun e => by cases e), fun i x hx => ?_⟩, fun e => ?_⟩
  · obtain ⟨g', off', cs, he, hk, hc⟩ := h.get (8 + i) x (by rw [List.getElem?_append_right (by omega), hl]; simpa using hx)
    injection he with he; injection he with h3 h4
    subst h3; subst h4
    refine ⟨g, off + 8, cs, rfl, hk, fun j v hj => ?_⟩
    have := hc j v hj
    simp only [kByte, flat, Nat.mul_one] at this ⊢
    rw [show off + 8 + i + j = off + (8 + i) + j by omega]; exact this
  · obtain rfl : rest = [] := List.eq_nil_of_length_eq_zero (by omega)
    exact ⟨by simp, by omega, (fun e => by cases e), fun i x hx => by simp at hx⟩

set_option maxRecDepth 100000 in
set_option maxHeartbeats 4000000 in
theorem take_any (f0 f1 f2 f3 f4 f5 f6 f7 : Int) (bs rest : List Int) (A : Option Addr) (c : Nat) (w : World) (hby : ∀ b ∈ rest, isB b) (hs : Sl kByte w A c bs)
    (b0 : isB f0) (b1 : isB f1) (b2 : isB f2) (b3 : isB f3) (b4 : isB f4) (b5 : isB f5) (b6 : isB f6) (b7 : isB f7)
    (hin : (bs = [] ∧ rest = [] ∧ f0 = 0 ∧ f1 = 0 ∧ f2 = 0 ∧ f3 = 0 ∧ f4 = 0 ∧ f5 = 0 ∧ f6 = 0 ∧ f7 = 0) ∨ bs = [f0, f1, f2, f3, f4, f5, f6, f7] ++ rest) :
    Calls Try.prog 13 #[.slice A bs.length c] w (TPost ⟨cfgOf f0 f1 f2 f3 f4 f5 f6 f7, (takeR (cfgOf f0 f1 f2 f3 f4 f5 f6 f7) rest).1, (takeR (cfgOf f0 f1 f2 f3 f4 f5 f6 f7) rest).2⟩ w) := by
  obtain ⟨i0, hi0, hz0, hz1, hz2⟩ := info_parts infoByte'
  have hsz0 : (Try.prog.info? 5).map (·.size) = some 1 := by rw [hi0]; simp [hz1]
  obtain ⟨n, hn⟩ : ∃ n : Nat, 1 + f0 % 8 = (n : Int) := ⟨(1 + f0 % 8).toNat, by omega⟩
  have hn1 : 1 ≤ n := by omega
  have hn8 : n ≤ 8 := by omega
  obtain ⟨F, hF⟩ : ∃ F, takeR (cfgOf f0 f1 f2 f3 f4 f5 f6 f7) rest = F := ⟨_, rfl⟩
  have hF2 : runT rest.length n rest (List.replicate n []) [] = F := by
    rw [← hF]; unfold takeR cfgOf; simp only [hn]; rfl
  have HF := Lib.hid hF; have HF2 := Lib.hid hF2; clear hF hF2
  have HN := Lib.hid hn; clear hn
  let J : Act → World → Prop := fun a' w' => ∃ (rs : List Int) (fu : Nat) (ops : List (List Oper)) (picks : List Int) (vs : List Value) (v : Value) (A' : Option Addr) (c' Q : Nat), a' = { tmps := #[.slice A' rs.length c', undef, .pointer (some ⟨w.heap.size, 0, none⟩), .pointer (some ⟨w.heap.size + 1, 0, none⟩), .pointer (some ⟨Q, 0, none⟩), a'.tmps.getD 5 undef, a'.tmps.getD 6 undef, a'.tmps.getD 7 undef, a'.tmps.getD 8 undef, a'.tmps.getD 9 undef, a'.tmps.getD 10 undef, a'.tmps.getD 11 undef, a'.tmps.getD 12 undef, a'.tmps.getD 13 undef, a'.tmps.getD 14 undef, a'.tmps.getD 15 undef, a'.tmps.getD 16 undef, a'.tmps.getD 17 undef, a'.tmps.getD 18 undef, a'.tmps.getD 19 undef, a'.tmps.getD 20 undef, a'.tmps.getD 21 undef, a'.tmps.getD 22 undef, a'.tmps.getD 23 undef, a'.tmps.getD 24 undef, a'.tmps.getD 25 undef, a'.tmps.getD 26 undef, a'.tmps.getD 27 undef, a'.tmps.getD 28 undef, a'.tmps.getD 29 undef, a'.tmps.getD 30 undef, a'.tmps.getD 31 undef, a'.tmps.getD 32 undef, a'.tmps.getD 33 undef, a'.tmps.getD 34 undef, a'.tmps.getD 35 undef, a'.tmps.getD 36 undef, a'.tmps.getD 37 undef, a'.tmps.getD 38 undef, a'.tmps.getD 39 undef, a'.tmps.getD 40 undef, a'.tmps.getD 41 undef, a'.tmps.getD 42 undef, a'.tmps.getD 43 undef, a'.tmps.getD 44 undef, a'.tmps.getD 45 undef, a'.tmps.getD 46 undef, a'.tmps.getD 47 undef, a'.tmps.getD 48 undef, a'.tmps.getD 49 undef, a'.tmps.getD 50 undef, a'.tmps.getD 51 undef, a'.tmps.getD 52 undef, a'.tmps.getD 53 undef, a'.tmps.getD 54 undef, a'.tmps.getD 55 undef, a'.tmps.getD 56 undef, a'.tmps.getD 57 undef, a'.tmps.getD 58 undef, a'.tmps.getD 59 undef, a'.tmps.getD 60 undef, a'.tmps.getD 61 undef, a'.tmps.getD 62 undef, a'.tmps.getD 63 undef, a'.tmps.getD 64 undef, a'.tmps.getD 65 undef, a'.tmps.getD 66 undef, a'.tmps.getD 67 undef, a'.tmps.getD 68 undef, a'.tmps.getD 69 undef, a'.tmps.getD 70 undef, a'.tmps.getD 71 undef, a'.tmps.getD 72 undef, a'.tmps.getD 73 undef, a'.tmps.getD 74 undef, a'.tmps.getD 75 undef, a'.tmps.getD 76 undef, a'.tmps.getD 77 undef, a'.tmps.getD 78 undef, a'.tmps.getD 79 undef, a'.tmps.getD 80 undef, a'.tmps.getD 81 undef, a'.tmps.getD 82 undef, a'.tmps.getD 83 undef], defers := [] } ∧
    Hid (runT fu n rs ops picks = F) ∧ Hid (rs.length ≤ fu) ∧ Hid (∀ b ∈ rs, isB b) ∧ Hid (ops.length = n) ∧ Hid (picks.length ≤ 4096) ∧ Hid (∀ l ∈ ops, l.length ≤ 64) ∧
    Hid (w'.heap[w.heap.size]? = some (.cells #[.int .i64 0, .int .i64 0, .int .i64 0, .int .i64 0, .int .i64 0, .int .i64 0, .int .i64 0, .int .i64 0, .int .i64 0, .slice none 0 0, .slice none 0 0] 27 (0, 0))) ∧
    Hid (w'.heap[Q]? = some (.cells #[.int .i64 n, .int .i64 (f1 % 4), .int .i64 (f2 % 2), .int .i64 (1 + f3), .int .i64 (1 + 4 * f4), .int .i64 (1 + f5 % 8), .int .i64 (1 + f6), .int .i64 (f7 % 16), .int .i64 1048576, .slice (some ⟨Q + 1, 0, none⟩) n n, v] 27 (0, 0))) ∧
    Hid (w'.heap[Q + 1]? = some (.cells vs.toArray 100 (0, 0))) ∧ w.heap.size + 1 < Q ∧
    Lot (Q + 2) w' v picks vs ops ∧ Sl kByte w A' c' rs ∧ Below w.heap.size w w'
  go_enter Try.func13, Try.ntmps13
  go_wp2
  refine wp_scope_once 0 J (fun a' _ => match a'.tmps.getD 0 undef with | .slice _ k _ => k | _ => 0) rfl ?_ ?_
  · rintro a' w' ⟨rs, fu, ops, picks, vs, v, A', c', Q, ha, HR, HFU, HBY, HO, HP, HL, HK0, HKQ, HKG, hBQ, hlot, hs', hbel⟩
    obtain ⟨U, hU⟩ : ∃ U : Nat → Value, ∀ k, a'.tmps.getD k undef = U k := ⟨_, fun _ => rfl⟩
    simp only [hU] at ha
    clear hU
    subst ha
    obtain ⟨A1, c1, rfl, hsl1⟩ := hlot.pk.acc.sl encI_len
    have hle := hs'.le; have htop := hs'.top
    have q0 := blk_cell HKQ.out 0 rfl; have q1 := blk_cell HKQ.out 1 rfl; have q2 := blk_cell HKQ.out 2 rfl; have q3 := blk_cell HKQ.out 3 rfl; have q4 := blk_cell HKQ.out 4 rfl; have q5 := blk_cell HKQ.out 5 rfl; have q6 := blk_cell HKQ.out 6 rfl; have q7 := blk_cell HKQ.out 7 rfl; have q8 := blk_cell HKQ.out 8 rfl; have q9 := blk_cell HKQ.out 9 rfl; have q10 := blk_cell HKQ.out 10 rfl; have qf := blk_free HKQ.out
    cases rs with
    | nil =>
      have hF' : F = (ops, picks) := by rw [← HR.out]; cases fu <;> rfl
      have HF' := Lib.hid hF'; clear hF'
      have z0 := blk_cell HK0.out 0 rfl; have z1 := blk_cell HK0.out 1 rfl; have z2 := blk_cell HK0.out 2 rfl; have z3 := blk_cell HK0.out 3 rfl; have z4 := blk_cell HK0.out 4 rfl; have z5 := blk_cell HK0.out 5 rfl; have z6 := blk_cell HK0.out 6 rfl; have z7 := blk_cell HK0.out 7 rfl; have z8 := blk_cell HK0.out 8 rfl; have z9 := blk_cell HK0.out 9 rfl; have z10 := blk_cell HK0.out 10 rfl; have zf := blk_free HK0.out
      go_wp2
      simp only [Exit.jump]
      refine bodyPost_ret (v := .agg #[.int .i64 n, .int .i64 (f1 % 4), .int .i64 (f2 % 2), .int .i64 (1 + f3), .int .i64 (1 + 4 * f4), .int .i64 (1 + f5 % 8), .int .i64 (1 + f6), .int .i64 (f7 % 16), .int .i64 1048576, .slice (some ⟨Q + 1, 0, none⟩) n n, .slice A1 picks.length c1]) ?_ rfl ?_
      · simp [results, Try.results13, go_sem, z0, z1, z2, z3, z4, z5, z6, z7, z8, z9, z10, World.cell?_setCell_same]
      · have st : ∀ (W1 : World) (i : Nat) (u : Value), (Lot (Q + 2) W1 (.slice A1 picks.length c1) picks vs ops ∧ W1.heap[Q + 1]? = some (.cells vs.toArray 100 (0, 0)) ∧ Below w.heap.size w W1) →
            (Lot (Q + 2) (W1.setCell ⟨w.heap.size, i, none⟩ u) (.slice A1 picks.length c1) picks vs ops ∧ (W1.setCell ⟨w.heap.size, i, none⟩ u).heap[Q + 1]? = some (.cells vs.toArray 100 (0, 0)) ∧ Below w.heap.size w (W1.setCell ⟨w.heap.size, i, none⟩ u)) :=
          fun W1 i u h => ⟨h.1.set _ _ _ (by omega), blk_far h.2.1 (by show Q + 1 ≠ w.heap.size; omega) _, below_set h.2.2 (Nat.le_refl _) _ _⟩
        obtain ⟨h1, h2, h3⟩ := st _ 10 (.slice A1 picks.length c1) (st _ 9 (.slice (some ⟨Q + 1, 0, none⟩) n n) (st _ 8 (.int .i64 1048576) (st _ 7 (.int .i64 (f7 % 16)) (st _ 6 (.int .i64 (1 + f6)) (st _ 5 (.int .i64 (1 + f5 % 8)) (st _ 4 (.int .i64 (1 + 4 * f4)) (st _ 3 (.int .i64 (1 + f3)) (st _ 2 (.int .i64 (f2 % 2)) (st _ 1 (.int .i64 (f1 % 4)) (st _ 0 (.int .i64 n) ⟨hlot, HKG.out, hbel⟩))))))))))
        rw [HF.out, HF'.out]
        refine ⟨some ⟨Q + 1, 0, none⟩, A1, n, c1, ?_, h1.sl h2 HO.out (by omega), ?_, h3⟩
        · simp only [cfgOf, HN.out, HO.out]
        · exact h1.pk.sl' encI_len
    | cons x r =>
      have hx := HBY.out x (by simp)
      obtain ⟨hx0, hx1⟩ := hx
      have hby' : ∀ b ∈ r, isB b := fun b hb => HBY.out b (by simp [hb])
      have hlen0 : (((x :: r).length : Int) == 0) = false := by rw [beq_eq_false_iff_ne]; simp; omega
      have hsl : Sl kByte w' A' c' (x :: r) := hs'.below hbel
      obtain ⟨bx, offx, rfl, g0⟩ := hsl.byte_at (k := 0) (by simp)
      simp only [Nat.add_zero, List.getElem_cons_zero] at g0
      simp only [List.length_cons] at hle
      obtain ⟨A2, hcut, hA2⟩ := Sl.tail (P := Try.prog) hs' 30 5 Try.underlying30 hi0 hz1
      obtain ⟨fu, rfl⟩ : ∃ k, fu = k + 1 := ⟨fu - 1, by have := HFU.out; simp at this; omega⟩
      have hfu : Hid (r.length ≤ fu) := by show r.length ≤ fu; have := HFU.out; simp at this; omega
      have HBY2 := Lib.hid hby'; clear hby' hsl
      by_cases h128 : x < 128
      · have hrun : Hid (runT fu n r ops (tPick n x picks) = F) := by show _ = _; rw [← HR.out]; simp [runT, h128]
        have hp2 := HP.out
        by_cases hpk : picks.length < 4096
        · have htp : tPick n x picks = picks ++ [x % (n + 2)] := by simp [tPick, hpk]
          rw [htp] at hrun
          have hw1 : IntKind.i64.wrap ((n : Int) + 2) = (n : Int) + 2 := IntWalk.i64_in _ (by omega)
          have hne2 : ¬ ((n : Int) + 2 = 0) := by omega
          have hw2 : x.tmod ((n : Int) + 2) = x % ((n : Int) + 2) := Int.tmod_eq_emod_of_nonneg hx0
          have hm0 := Int.emod_nonneg x hne2
          have hm1 := Int.emod_lt_of_pos x (show (0 : Int) < (n : Int) + 2 by omega)
          have hw3 : IntKind.i64.wrap (x % ((n : Int) + 2)) = x % ((n : Int) + 2) := IntWalk.i64_in _ (by omega)
          clear htp
          have hlen1 : (picks ++ [x % ((n : Int) + 2)]).length = picks.length + 1 := by simp
          have hneQ : some Q ≠ (Value.slice A1 picks.length c1).ownBlock := hlot.pk.ne (Nat.lt_succ_of_lt (Nat.lt_succ_self _))
          have hszQ : Q < w'.heap.size := blk_lt HKQ.out
          have hszQ1 : Q + 1 < w'.heap.size := blk_lt HKG.out
          go_upto_region 11 with fail
          go_region_law ((refine stepS encI 1 encI_len encI_one (Q + 2) rfl (.tmp 40) (.tmp 47) 25 3 (.int .i64 0) 8 rfl Try.underlying25 infoInt rfl (by decide) (by decide) (.slice A1 picks.length c1) picks [x % ((n : Int) + 2)] (some ⟨w'.heap.size, 0, none⟩) 1 rfl rfl (by simp) ((sl_lit1 encI 1 w' 3 (x % ((n : Int) + 2)) rfl).below (Below.refl _ _).drew) (hlot.pk.acc.one _).drew ?_ ?_ ?_; (show Q + 2 ≤ (w'.heap.push _).size; simp; omega); (simp; omega); intro v1 w5 ho1 hg1 hm1; obtain ⟨A5, c5, rfl, hs5⟩ := ho1.acc.sl encI_len; rw [hlen1] at ho1 hm1; have k05 := blk_grown (blk_drew (blk_old HKQ.out)) hg1 hneQ; have p0 := blk_cell k05 0 rfl; have p10 := blk_cell k05 10 rfl; have pf := blk_free k05))
          all_goals (
            go_wp2
            refine wp_goto ?_
            have hlot1 := (hlot.below ((Below.one w' (.cells #[.int .i64 (x % ((n : Int) + 2))] 3)).drew)).pick hg1 hm1 ho1
            refine ⟨rfl, ⟨r, fu, ops, _, vs, _, A2, c' - 1, Q, rfl, hrun, hfu, HBY2, HO, ?_, HL, ?_, ?_, ?_, hBQ, hlot1.set _ _ _ (by omega), hA2, ?_⟩, ?_⟩
            · show (picks ++ [_]).length ≤ 4096; simp; omega
            · exact blk_far (blk_grown (blk_drew (blk_old HK0.out)) hg1 (hlot.pk.ne (by omega))) (by show w.heap.size ≠ Q; omega) _
            · exact blk_set k05 10 _
            · exact blk_far (blk_grown (blk_drew (blk_old HKG.out)) hg1 (hlot.pk.ne (by omega))) (by show Q + 1 ≠ Q; omega) _
            · exact below_set ((hbel.alloc hbel.size _).drew.grown hg1 (Nat.le_trans hbel.size (by simp)) (fun q hq => by have := hlot.pk.base_ q hq; omega)) (by omega) _ _
            · simp)
        · have htp : tPick n x picks = picks := by simp [tPick, hpk]
          rw [htp] at hrun
          clear htp
          go_wp2
          refine wp_goto ?_
          refine ⟨rfl, ⟨r, fu, ops, picks, vs, _, A2, c' - 1, Q, rfl, hrun, hfu, HBY2, HO, HP, HL, HK0, HKQ, HKG, hBQ, hlot, hA2, hbel⟩, ?_⟩
          simp
      · have h128b : ¬ x < 128 := h128
        have hrun : Hid (runT fu n (r.drop (ofLen r)) (tOps (tIdx n x) (ofRes r) ops) picks = F) := by show _ = _; rw [← HR.out]; simp [runT, h128]
        have hn0 : (0 : Int) < n := by omega
        have him : (x - 128).tmod n = (x - 128) % n := Int.tmod_eq_emod_of_nonneg (by omega)
        have hi1 := Int.emod_nonneg (x - 128) (show (n : Int) ≠ 0 by omega)
        have hi2 := Int.emod_lt_of_pos (x - 128) hn0
        obtain ⟨i, hi⟩ : ∃ i : Nat, (x - 128) % n = (i : Int) := ⟨((x - 128) % n).toNat, by omega⟩
        have htid : tIdx n x = i := by unfold tIdx; rw [hi]; rfl
        rw [htid] at hrun
        rw [hi] at him hi2
        clear htid hi hi1
        have hin2 : i < n := by omega
        have hoi : i < ops.length := by rw [HO.out]; exact hin2
        have hvl : i < vs.length := by rw [hlot.len]; exact hoi
        obtain ⟨v3, hv3⟩ : ∃ v3, vs[i]? = some v3 := ⟨_, List.getElem?_eq_getElem hvl⟩
        obtain ⟨l, hl⟩ : ∃ l, ops[i]? = some l := ⟨_, List.getElem?_eq_getElem hoi⟩
        have hld : ops.getD i [] = l := by simp [hl]
        have hl64 := HL.out l (List.mem_of_getElem? hl)
        have hown3 := hlot.op i v3 l hv3 hl
        obtain ⟨A3, c3, rfl, hsl3⟩ := hown3.acc.sl encOper_len
        have hHV3 := Lib.hid hv3; have HLL := Lib.hid hl; clear hv3 hl
        have g3 : w'.cell? ⟨Q + 1, i, none⟩ = some (.slice A3 l.length c3) := blk_cell HKG.out i (by simpa using hHV3.out)
        have hszQ : Q < w'.heap.size := blk_lt HKQ.out
        have hszQ1 : Q + 1 < w'.heap.size := blk_lt HKG.out
        obtain ⟨A4, hcut4, hA4⟩ := hA2.cut (P := Try.prog) 30 5 Try.underlying30 hi0 hz1 (ofLen r) (ofLen_le r)
        have hol := ofLen_le r
        have hdl : (r.drop (ofLen r)).length ≤ r.length := by simp
        have hby4 : Hid (∀ b ∈ r.drop (ofLen r), isB b) := fun b hb => HBY2.out b (List.mem_of_mem_drop hb)
        have hfu4 : Hid ((r.drop (ofLen r)).length ≤ fu) := Nat.le_trans hdl hfu.out
        go_upto_region 14 with (go_at_call 59; refine (of_all r A2 (c' - 1) _ HBY2.out (hA2.below hbel)).mono ?_; rintro e w5 ⟨oq, rfl, hb⟩)
        generalize r.drop (ofLen r) = rd at *
        generalize ofLen r = k at *
        generalize ofRes r = o at *
        have hlot6 := (hlot.below hb).below (Below.one w5 (.cells #[.int .i64 o.kind, .int .i64 o.p.a, .int .i64 o.p.b, .int .i64 o.p.c, .int .i64 o.p.d, .int .i64 o.p.k, .int .i64 o.v] 50))
        have k06 := blk_old (o := .cells #[.int .i64 o.kind, .int .i64 o.p.a, .int .i64 o.p.b, .int .i64 o.p.c, .int .i64 o.p.d, .int .i64 o.p.k, .int .i64 o.v] 50) (blk_below hb HK0.out)
        have kq6 := blk_old (o := .cells #[.int .i64 o.kind, .int .i64 o.p.a, .int .i64 o.p.b, .int .i64 o.p.c, .int .i64 o.p.d, .int .i64 o.p.k, .int .i64 o.v] 50) (blk_below hb HKQ.out)
        have kg6 := blk_old (o := .cells #[.int .i64 o.kind, .int .i64 o.p.a, .int .i64 o.p.b, .int .i64 o.p.c, .int .i64 o.p.d, .int .i64 o.p.k, .int .i64 o.v] 50) (blk_below hb HKG.out)
        have kh6 := blk_new w5 (.cells #[.int .i64 o.kind, .int .i64 o.p.a, .int .i64 o.p.b, .int .i64 o.p.c, .int .i64 o.p.d, .int .i64 o.p.k, .int .i64 o.v] 50) _ rfl
        have hbel6 : Below w.heap.size w (w5.alloc (.cells #[.int .i64 o.kind, .int .i64 o.p.a, .int .i64 o.p.b, .int .i64 o.p.c, .int .i64 o.p.d, .int .i64 o.p.k, .int .i64 o.v] 50)) := (hbel.trans (hb.mono hbel.size)).alloc (Nat.le_trans hbel.size hb.size) _
        have hneH : some w5.heap.size ≠ (Value.slice A3 l.length c3).ownBlock := fun e => by have := hlot.xlt hHV3.out _ e.symm; have := hb.size; omega
        have hH1 : Q + 1 < w5.heap.size := Nat.lt_of_lt_of_le hszQ1 hb.size
        have hH2 : w5.heap.size < (w5.alloc (.cells #[.int .i64 o.kind, .int .i64 o.p.a, .int .i64 o.p.b, .int .i64 o.p.c, .int .i64 o.p.d, .int .i64 o.p.k, .int .i64 o.v] 50)).heap.size := by simp
        clear hb hlot HK0 HKQ HKG hsl3 hown3 hsl1 q0 q1 q2 q3 q4 q5 q6 q7 q8 q9 q10 qf g3 g0 hcut
        generalize (w5.alloc (.cells #[.int .i64 o.kind, .int .i64 o.p.a, .int .i64 o.p.b, .int .i64 o.p.c, .int .i64 o.p.d, .int .i64 o.p.k, .int .i64 o.v] 50)) = W6 at *
        generalize w5.heap.size = H at *
        have q9 := blk_cell kq6 9 rfl
        have g3 : W6.cell? ⟨Q + 1, i, none⟩ = some (.slice A3 l.length c3) := blk_cell kg6 i (by simpa using hHV3.out)
        have gf := blk_free kg6
        have hon := hlot6.op i _ l hHV3.out HLL.out
        have hsQ : Q < W6.heap.size := by omega
        have hsQ1 : Q + 1 < W6.heap.size := by omega
        by_cases hl4 : l.length < 64
        · have htp : tOps i o ops = ops.set i (l ++ [o]) := by simp only [tOps, hld, if_pos hl4]
          rw [htp] at hrun
          clear htp hld
          have h0 := blk_cell kh6 0 rfl; have h1 := blk_cell kh6 1 rfl; have h2 := blk_cell kh6 2 rfl; have h3 := blk_cell kh6 3 rfl; have h4 := blk_cell kh6 4 rfl; have h5 := blk_cell kh6 5 rfl; have h6 := blk_cell kh6 6 rfl
          have d1 : ¬ Q = Q + 1 := by omega
          have d2 : ¬ Q + 1 = Q := by omega
          have d3 : ¬ H = Q + 1 := by omega
          have d4 : ¬ Q + 1 = H := by omega
          have hlen1 : (l ++ [o]).length = l.length + 1 := by simp
          have hneG : some (Q + 1) ≠ (Value.slice A3 l.length c3).ownBlock := hon.ne (Nat.lt_succ_self _)
          have hneQ : some Q ≠ (Value.slice A3 l.length c3).ownBlock := hon.ne (Nat.lt_succ_of_lt (Nat.lt_succ_self _))
          have hneB : some w.heap.size ≠ (Value.slice A3 l.length c3).ownBlock := hon.ne (by omega)
          go_upto_region 16 with fail
          go_region_law ((refine stepS encOper 7 encOper_len encOper_one (Q + 2) rfl (.tmp 79) (.tmp 81) 100 50 (.agg #[.int .i64 0, .int .i64 0, .int .i64 0, .int .i64 0, .int .i64 0, .int .i64 0, .int .i64 0]) 56 rfl Try.underlying100 infoOper rfl (by decide) (by decide) (.slice A3 l.length c3) l [o] (some ⟨W6.heap.size, 0, none⟩) 1 rfl rfl (by simp) ((sl_lit1 encOper 7 W6 50 o rfl).below (Below.refl _ _).drew) (hon.acc.one _).drew ?_ ?_ ?_; (show Q + 2 ≤ (W6.heap.push _).size; simp; omega); (simp; omega); intro v1 w5 ho1 hg1 hm1; obtain ⟨A5, c5, rfl, hs5⟩ := ho1.acc.sl encOper_len; rw [hlen1] at ho1 hm1; have k05 := blk_grown (blk_drew (blk_old kg6)) hg1 hneG; have kq5 := blk_grown (blk_drew (blk_old kq6)) hg1 hneQ; have pg := blk_free k05; have p3 : w5.cell? ⟨Q + 1, i, none⟩ = some (.slice A3 l.length c3) := blk_cell k05 i (by simpa using hHV3.out); have p9 := blk_cell kq5 9 rfl; have kh5 := blk_grown (blk_drew (blk_old kh6)) hg1 hneH; have r0 := blk_cell kh5 0 rfl; have r1 := blk_cell kh5 1 rfl; have r2 := blk_cell kh5 2 rfl; have r3 := blk_cell kh5 3 rfl; have r4 := blk_cell kh5 4 rfl; have r5 := blk_cell kh5 5 rfl; have r6 := blk_cell kh5 6 rfl))
          all_goals (
            go_wp2
            refine wp_goto ?_
            have hlot1 := (hlot6.below ((Below.one W6 (.cells (encOper o).toArray 50)).drew)).oper hHV3.out hg1 hm1 ho1
            refine ⟨rfl, ⟨rd, fu, ops.set i (l ++ [o]), picks, vs.set i (.slice A5 (l.length + 1) c5), _, A4, _, Q, rfl, hrun, hfu4, hby4, ?_, HP, ?_, ?_, ?_, ?_, hBQ, hlot1.set _ _ _ (by omega), hA4, ?_⟩, ?_⟩
            · show (ops.set i (l ++ [o])).length = n; rw [List.length_set]; exact HO.out
            · intro l' hl'
              rcases List.mem_or_eq_of_mem_set hl' with h | h
              · exact HL.out l' h
              · subst h; rw [hlen1]; omega
            · exact blk_far (blk_grown (blk_drew (blk_old k06)) hg1 hneB) (by show w.heap.size ≠ Q + 1; omega) _
            · exact blk_far kq5 (by show Q ≠ Q + 1; omega) _
            · have := blk_set k05 i (.slice A5 (l.length + 1) c5)
              rw [List.setIfInBounds_toArray] at this; exact this
            · exact below_set ((hbel6.alloc hbel6.size _).drew.grown hg1 (Nat.le_trans hbel6.size (by simp)) (fun q hq => by have := hon.base_ q hq; omega)) (by omega) _ _
            · simp; omega)
        · have htp : tOps i o ops = ops := by simp only [tOps, hld, if_neg hl4]
          rw [htp] at hrun
          clear htp hld
          go_wp2
          refine wp_goto ?_
          refine ⟨rfl, ⟨rd, fu, ops, picks, vs, _, A4, _, Q, rfl, hrun, hfu4, hby4, HO, HP, HL, k06, kq6, kg6, hBQ, hlot6, hA4, hbel6⟩, ?_⟩
          simp; omega
  · intro hp
    go_upto_region 2 with fail
    generalize hW : ((w.alloc _).alloc _) = W
    have hbel : Below w.heap.size w W := by subst hW; exact Below.two _ _ _
    have k0 : W.heap[w.heap.size]? = some (.cells #[.int .i64 0, .int .i64 0, .int .i64 0, .int .i64 0, .int .i64 0, .int .i64 0, .int .i64 0, .int .i64 0, .int .i64 0, .slice none 0 0, .slice none 0 0] 27 (0, 0)) := by subst hW; exact blk_old (blk_new _ _ _ rfl)
    have k1 : W.heap[w.heap.size + 1]? = some (.cells #[.int .u8 0, .int .u8 0, .int .u8 0, .int .u8 0, .int .u8 0, .int .u8 0, .int .u8 0, .int .u8 0] 101 (0, 0)) := by subst hW; exact blk_new _ _ _ (size_alloc _ _ rfl)
    clear hW
    have hs0 := hs
    replace hs := hs.below hbel
    go_cut [0] (fun s wr => ∃ A' c', s = .slice A' rest.length c' ∧ Sl kByte w A' c' rest ∧ Below w.heap.size w wr ∧ Hid (wr.heap[w.heap.size]? = some (.cells #[.int .i64 0, .int .i64 0, .int .i64 0, .int .i64 0, .int .i64 0, .int .i64 0, .int .i64 0, .int .i64 0, .int .i64 0, .slice none 0 0, .slice none 0 0] 27 (0, 0))) ∧
      Hid (wr.heap[w.heap.size + 1]? = some (.cells #[.int .u8 f0, .int .u8 f1, .int .u8 f2, .int .u8 f3, .int .u8 f4, .int .u8 f5, .int .u8 f6, .int .u8 f7] 101 (0, 0))))
    case first =>
      rcases hin with ⟨rfl, rfl, rfl, rfl, rfl, rfl, rfl, rfl, rfl, rfl⟩ | rfl
      · simp only [List.length_nil] at *
        go_wp2_with ((refine wpList_copy_nothing rfl (.tmp 11) (.tmp 12) 30 30 rfl 5 Try.underlying30 hsz0 _ _ 8 8 0 _ rfl rfl rfl ?_))
        go_meet
        exact ⟨A, c, rfl, hs0, hbel, k0, k1⟩
      · have hlen : ([f0, f1, f2, f3, f4, f5, f6, f7] ++ rest).length = rest.length + 8 := by simp
        obtain ⟨g, off, rfl, hget⟩ := hs.head8
        obtain ⟨hs1, hs2⟩ := hs0.drop8 rfl
        have hle := hs.le; have htop := hs.top
        rw [hlen] at hle ⊢
        have hmin : [f0, f1, f2, f3, f4, f5, f6, f7].length = Nat.min (rest.length + 8) 8 := by simp
        clear hs hs0
        go_wp2_with ((refine wpList_copy_splice rfl (.tmp 11) (.tmp 12) 30 30 rfl 5 Try.underlying30 hsz0 _ _ 8 8 (rest.length + 8) _ rfl rfl (w.heap.size + 1) 0 [.int .u8 0, .int .u8 0, .int .u8 0, .int .u8 0, .int .u8 0, .int .u8 0, .int .u8 0, .int .u8 0] 101 k1 [.int .u8 f0, .int .u8 f1, .int .u8 f2, .int .u8 f3, .int .u8 f4, .int .u8 f5, .int .u8 f6, .int .u8 f7] hmin (fun _ => ⟨rfl, _, rfl, hget⟩) (by simp) (by simp [Value.oneCell']) (w.heap.size + 1) W (Below.refl _ _) (Nat.le_refl _) ?_; intro w2 HK1 hb2))
        all_goals (
          have hb3 : Below w.heap.size w w2 := hbel.trans (hb2.mono (Nat.le_succ _))
          have k02 : w2.heap[w.heap.size]? = some (.cells #[.int .i64 0, .int .i64 0, .int .i64 0, .int .i64 0, .int .i64 0, .int .i64 0, .int .i64 0, .int .i64 0, .int .i64 0, .slice none 0 0, .slice none 0 0] 27 (0, 0)) := (hb2.block _ (Nat.lt_succ_self _)).trans k0
          go_meet)
        · exact ⟨_, _, rfl, hs2 (by assumption), hb3, k02, HK1⟩
        · exact ⟨_, _, rfl, hs1, hb3, k02, HK1⟩
    case rest =>
    obtain ⟨A', c', rfl, hs', hbel2, HK0, HK1⟩ := hcut
    clear hbel k0 k1 hs hs0 hin
    have e0 := blk_cell HK1.out 0 rfl; have e1 := blk_cell HK1.out 1 rfl; have e2 := blk_cell HK1.out 2 rfl; have e3 := blk_cell HK1.out 3 rfl; have e4 := blk_cell HK1.out 4 rfl; have e5 := blk_cell HK1.out 5 rfl; have e6 := blk_cell HK1.out 6 rfl; have e7 := blk_cell HK1.out 7 rfl
    have hlt : w.heap.size + 1 < wc.heap.size := blk_lt HK1.out
    go_upto_region 4 with ((go_at_call 58; refine (config_any _ _ _ _ _ _ _ _ b0 b1 b2 b3 b4 b5 b6 b7 _).mono ?_; rintro e w3 ⟨rfl, hb⟩))
    rw [HN.out]
    clear e0 e1 e2 e3 e4 e5 e6 e7
    have k0 := blk_old (o := .cells #[.int .i64 n, .int .i64 (f1 % 4), .int .i64 (f2 % 2), .int .i64 (1 + f3), .int .i64 (1 + 4 * f4), .int .i64 (1 + f5 % 8), .int .i64 (1 + f6), .int .i64 (f7 % 16), .int .i64 1048576, .slice none 0 0, .slice none 0 0] 27) (blk_below hb HK0.out)
    have kq := blk_new w3 (.cells #[.int .i64 n, .int .i64 (f1 % 4), .int .i64 (f2 % 2), .int .i64 (1 + f3), .int .i64 (1 + 4 * f4), .int .i64 (1 + f5 % 8), .int .i64 (1 + f6), .int .i64 (f7 % 16), .int .i64 1048576, .slice none 0 0, .slice none 0 0] 27) _ rfl
    have hlt2 : w.heap.size + 1 < w3.heap.size := Nat.lt_of_lt_of_le hlt hb.size
    have hbel4 : Below w.heap.size w (w3.alloc (.cells #[.int .i64 n, .int .i64 (f1 % 4), .int .i64 (f2 % 2), .int .i64 (1 + f3), .int .i64 (1 + 4 * f4), .int .i64 (1 + f5 % 8), .int .i64 (1 + f6), .int .i64 (f7 % 16), .int .i64 1048576, .slice none 0 0, .slice none 0 0] 27)) := (hbel2.trans (hb.mono hbel2.size)).alloc (by omega) _
    have hsz4 : (w3.alloc (.cells #[.int .i64 n, .int .i64 (f1 % 4), .int .i64 (f2 % 2), .int .i64 (1 + f3), .int .i64 (1 + 4 * f4), .int .i64 (1 + f5 % 8), .int .i64 (1 + f6), .int .i64 (f7 % 16), .int .i64 1048576, .slice none 0 0, .slice none 0 0] 27)).heap.size = w3.heap.size + 1 := size_alloc _ _ rfl
    clear hbel2 HK0 HK1 hb
    generalize (w3.alloc (.cells #[.int .i64 n, .int .i64 (f1 % 4), .int .i64 (f2 % 2), .int .i64 (1 + f3), .int .i64 (1 + 4 * f4), .int .i64 (1 + f5 % 8), .int .i64 (1 + f6), .int .i64 (f7 % 16), .int .i64 1048576, .slice none 0 0, .slice none 0 0] 27)) = W4 at *
    generalize w3.heap.size = Q at *
    have hQl : Q < W4.heap.size := by omega
    have HZ4 := Lib.hid hsz4; clear hsz4
    have q0 := blk_cell kq 0 rfl; have q9 := blk_cell kq 9 rfl; have qf := blk_free kq
    obtain ⟨vs0, hvs0⟩ : ∃ vs0, vs0 = List.replicate n (Value.slice none 0 0) := ⟨_, rfl⟩
    have hmk : ∀ u : World, (Instr.makeSlice 24 (.int .i64 n) (.int .i64 n)).run Try.prog u = .ok (.slice (some ⟨u.heap.size, 0, none⟩) n n) (u.alloc (.cells vs0.toArray 100)) := by
      intro u
      obtain ⟨i1, hi1, y0, y1, y2⟩ := info_parts infoSlOp
      have h := run_makeSlice (P := Try.prog) u 24 100 i1 (.slice none 0 0) Try.underlying24 hi1 y0 .i64 .i64 n n (by omega) (by omega) (by rw [y1]; simp; omega) (by rw [y2]; omega) (by omega)
      rw [y1] at h
      simp only [Int.toNat_natCast] at h
      rw [made_nil, ← hvs0] at h
      exact h
    have HV0 := Lib.hid hvs0; clear hvs0
    go_wp2
    refine wp_label ?_
    go_step
    go_step
    rw [HZ4.out]
    refine hp _ _ ⟨rest, rest.length, List.replicate n [], [], vs0, .slice none 0 0, A', c', Q, rfl, ?_, Nat.le_refl _, hby, by simp [Hid], by simp [Hid], ?_, ?_, ?_, ?_, hlt2, ?_, ?_, ?_⟩
    · exact HF2
    · intro l hl; obtain ⟨_, rfl⟩ := List.mem_replicate.1 hl; simp
    · exact blk_old (blk_far k0 (by show w.heap.size ≠ Q; omega) _)
    · exact blk_old (blk_set kq 9 _)
    · exact blk_new _ _ _ (by rw [show (W4.setCell ⟨Q, 9, none⟩ (.slice (some ⟨Q + 1, 0, none⟩) n n)).heap.size = W4.heap.size by simp [World.setCell]]; exact HZ4.out)
    · rw [HV0.out]
      refine ⟨by simp, OwnF.nil _ _ _ _ _, fun i x o hx ho => ?_, fun i x hx k hk => ?_, fun i j x y hij hx hy k hk => ?_⟩
      · have hx1 := List.mem_replicate.1 (List.mem_of_getElem? hx)
        have ho1 := List.mem_replicate.1 (List.mem_of_getElem? ho)
        rw [hx1.2, ho1.2]; exact OwnF.nil _ _ _ _ _
      · cases hk
      · have hx1 := List.mem_replicate.1 (List.mem_of_getElem? hx)
        rw [hx1.2] at hk; cases hk
    · exact hs'
    · exact (hbel4.setCell (by show w.heap.size ≤ Q; omega) _).alloc (by rw [show (W4.setCell ⟨Q, 9, none⟩ (.slice (some ⟨Q + 1, 0, none⟩) n n)).heap.size = W4.heap.size by simp [World.setCell]]; have := HZ4.out; omega) _
end Go.Proofs.Ytnkcgakmajdmcaa
