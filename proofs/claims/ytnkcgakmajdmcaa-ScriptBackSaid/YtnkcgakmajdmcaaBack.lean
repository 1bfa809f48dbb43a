/-
  The walks through the law ScriptBack and its awake.
-/
import Derived.Test.YtnkcgakmajdmcaaTake
import Derived.Test.YtnkcgakmajdmcaaTakeBack
import Derived.Test.YtnkcgakmajdmcaaPlan
namespace Go.Proofs.Ytnkcgakmajdmcaa
open Go.RowKit

theorem take_good (p : Plan) (hg : goodP p = true) (A : Option Addr) (c : Nat) (w : World) (hs : Sl kByte w A c (planB p)) :
    Calls Try.prog 13 #[.slice A (planB p).length c] w (TPost p w) := by
  obtain ⟨hb, b0, b1, b2, b3, b4, b5, b6, b7⟩ := planB_bytes hg
  have h := take_any _ _ _ _ _ _ _ _ (planB p) (opsB p.ops p.ops.length ++ p.picks) A c w hb hs b0 b1 b2 b3 b4 b5 b6 b7 (.inr (by simp [planB, head8]))
  rw [cfg_back hg, take_back hg] at h
  exact h
theorem take_nil (w : World) : Calls Try.prog 13 #[.slice none 0 0] w fun e w' => ∃ A B m n, e = .returned (.agg #[.int .i64 1, .int .i64 0, .int .i64 0, .int .i64 1, .int .i64 1, .int .i64 1, .int .i64 1, .int .i64 0, .int .i64 1048576, .slice A 1 m, .slice B 0 n]) ∧ Below w.heap.size w w' := by
  have hz : isB 0 := ⟨by omega, by omega⟩
  refine (take_any 0 0 0 0 0 0 0 0 [] [] none 0 w (by simp) (Sl.nil_ _ _) hz hz hz hz hz hz hz hz (.inl ⟨rfl, rfl, rfl, rfl, rfl, rfl, rfl, rfl, rfl, rfl⟩)).mono ?_
  rintro e w' ⟨A, B, m, n, he, _, _, hb⟩
  exact ⟨A, B, m, n, he, hb⟩

set_option maxRecDepth 100000 in
set_option maxHeartbeats 1000000 in
theorem sb_awake (w : World) : Calls Try.prog 9 #[] w fun e w' => e = .returned (.bool true) ∧ Below w.heap.size w w' := by
  go_enter Try.func9, Try.ntmps9
  go_wp2_with (go_at_call 13; refine (take_nil _).mono ?_; rintro e w1 ⟨A, B, m, n, rfl, hb⟩; have hz := hb.size)
  go_ret
  exact ⟨rfl, hb.alloc hz _⟩

theorem sput_any (p : Plan) (A B : Option Addr) (m n : Nat) (w : World) (ho : Sl (kSl kOper) w A m p.ops) (hp : Sl kInt w B n p.picks) :
    Calls Try.prog 11 #[.agg #[.int .i64 p.c.cl, .int .i64 p.c.po, .int .i64 p.c.vi, .int .i64 p.c.he, .int .i64 p.c.re, .int .i64 p.c.la, .int .i64 p.c.ti, .int .i64 p.c.gr, .int .i64 p.c.ck, .slice A p.ops.length m, .slice B p.picks.length n]] w (PPost p w) := by
  by_cases hr : rightB p.c = true
  · by_cases h : isCfg p.c = true ∧ (p.ops.length : Int) = p.c.cl ∧ p.picks.length ≤ 4096
    · exact sput_main p A B m n w ho hp hr h.1 h.2.1 h.2.2
    · refine sput_no2 p A B m n w ho hp hr ?_
      by_cases h1 : isCfg p.c = true
      · by_cases h2 : (p.ops.length : Int) = p.c.cl
        · exact .inr (.inr fun h3 => h ⟨h1, h2, h3⟩)
        · exact .inr (.inl h2)
      · exact .inl (by simpa using h1)
  · exact sput_no1 p A B m n w ho hp (by simpa using hr)

set_option maxRecDepth 100000 in
set_option maxHeartbeats 4000000 in
theorem sback_any (p : Plan) (A B : Option Addr) (m n : Nat) (w : World) (ho : Sl (kSl kOper) w A m p.ops) (hp : Sl kInt w B n p.picks) :
    Calls Try.prog 3 #[.agg #[.int .i64 p.c.cl, .int .i64 p.c.po, .int .i64 p.c.vi, .int .i64 p.c.he, .int .i64 p.c.re, .int .i64 p.c.la, .int .i64 p.c.ti, .int .i64 p.c.gr, .int .i64 p.c.ck, .slice A p.ops.length m, .slice B p.picks.length n]] w fun e w' => e = .returned (.bool true) ∧ Below w.heap.size w w' := by
  have h1 := ho.le; have h2 := ho.top; have h3 := hp.le; have h4 := hp.top
  go_enter Try.func3, Try.ntmps3
  go_upto_region 3 with (go_at_call 9; refine (sb_awake _).mono ?_; rintro e w1 ⟨rfl, hb⟩)
  have k0 := blk_below hb (blk_new w (.cells #[.int .i64 p.c.cl, .int .i64 p.c.po, .int .i64 p.c.vi, .int .i64 p.c.he, .int .i64 p.c.re, .int .i64 p.c.la, .int .i64 p.c.ti, .int .i64 p.c.gr, .int .i64 p.c.ck, .slice A p.ops.length m, .slice B p.picks.length n] 27) _ rfl)
  have hbel : Below w.heap.size w w1 := Below.after1 hb
  have hlt : w.heap.size < w1.heap.size := blk_lt k0
  clear hb
  have e0 := blk_cell k0 0 rfl; have e1 := blk_cell k0 1 rfl; have e2 := blk_cell k0 2 rfl; have e3 := blk_cell k0 3 rfl; have e4 := blk_cell k0 4 rfl; have e5 := blk_cell k0 5 rfl; have e6 := blk_cell k0 6 rfl; have e7 := blk_cell k0 7 rfl; have e8 := blk_cell k0 8 rfl; have e9 := blk_cell k0 9 rfl; have e10 := blk_cell k0 10 rfl
  by_cases hf : fewB p = true
  · by_cases hg : goodP p = true
    · have HG := Lib.hid hg; clear hg
      have HF := Lib.hid hf
      go_upto_region 8 with (first
        | (go_at_call 10; refine (few_any p A B m n _ (ho.below hbel) (hp.below hbel)).mono ?_; rintro e w2 ⟨rfl, hb⟩; have k1 := blk_below hb k0; have hbel2 := hbel.trans (hb.mono hbel.size); have e0 := blk_cell k1 0 rfl; have e1 := blk_cell k1 1 rfl; have e2 := blk_cell k1 2 rfl; have e3 := blk_cell k1 3 rfl; have e4 := blk_cell k1 4 rfl; have e5 := blk_cell k1 5 rfl; have e6 := blk_cell k1 6 rfl; have e7 := blk_cell k1 7 rfl; have e8 := blk_cell k1 8 rfl; have e9 := blk_cell k1 9 rfl; have e10 := blk_cell k1 10 rfl)
        | (go_at_call 11; refine (sput_any p A B m n _ (ho.below hbel2) (hp.below hbel2)).mono ?_; rintro e w3 ⟨hy, _, hb3⟩; obtain ⟨v, rfl, hacc⟩ := hy HG.out; obtain ⟨A3, c3, rfl, hs3⟩ := hacc.sl encB_len; have k2 := blk_below hb3 k1; have hbel3 := hbel2.trans (hb3.mono hbel2.size)))
      have hsp : samePlanB p p = true := by simp [samePlanB]
      have hlt3 : w.heap.size < w3.heap.size := blk_lt k2
      have e0 := blk_cell k2 0 rfl; have e1 := blk_cell k2 1 rfl; have e2 := blk_cell k2 2 rfl; have e3 := blk_cell k2 3 rfl; have e4 := blk_cell k2 4 rfl; have e5 := blk_cell k2 5 rfl; have e6 := blk_cell k2 6 rfl; have e7 := blk_cell k2 7 rfl; have e8 := blk_cell k2 8 rfl; have e9 := blk_cell k2 9 rfl; have e10 := blk_cell k2 10 rfl
      go_region_held3 (fun w' => w'.cell? ⟨w.heap.size, 0, none⟩ = some (.int .i64 p.c.cl) ∧ w'.cell? ⟨w.heap.size, 1, none⟩ = some (.int .i64 p.c.po) ∧ w'.cell? ⟨w.heap.size, 2, none⟩ = some (.int .i64 p.c.vi) ∧ w'.cell? ⟨w.heap.size, 3, none⟩ = some (.int .i64 p.c.he) ∧ w'.cell? ⟨w.heap.size, 4, none⟩ = some (.int .i64 p.c.re) ∧ w'.cell? ⟨w.heap.size, 5, none⟩ = some (.int .i64 p.c.la) ∧ w'.cell? ⟨w.heap.size, 6, none⟩ = some (.int .i64 p.c.ti) ∧ w'.cell? ⟨w.heap.size, 7, none⟩ = some (.int .i64 p.c.gr) ∧ w'.cell? ⟨w.heap.size, 8, none⟩ = some (.int .i64 p.c.ck) ∧ w'.cell? ⟨w.heap.size, 9, none⟩ = some (.slice A p.ops.length m) ∧ w'.cell? ⟨w.heap.size, 10, none⟩ = some (.slice B p.picks.length n)) (go_keep)
        (first
          | (go_at_call 13; refine (take_good p HG.out A3 c3 _ (by first | exact hs3 | exact hs3.below (Below.refl _ _).drew)).mono ?_; rintro e w4 ⟨A4, B4, m4, n4, rfl, ho4, hp4, hb4⟩; have hbel4 : Below w.heap.size w w4 := (by first | exact hbel3.trans (hb4.mono hbel3.size) | exact hbel3.drew.trans (hb4.mono hbel3.size)); have k3 := (by first | exact blk_below hb4 k2 | exact blk_below hb4 (blk_drew k2) : w4.heap[w.heap.size]? = _); have e0 := blk_cell k3 0 rfl; have e1 := blk_cell k3 1 rfl; have e2 := blk_cell k3 2 rfl; have e3 := blk_cell k3 3 rfl; have e4 := blk_cell k3 4 rfl; have e5 := blk_cell k3 5 rfl; have e6 := blk_cell k3 6 rfl; have e7 := blk_cell k3 7 rfl; have e8 := blk_cell k3 8 rfl; have e9 := blk_cell k3 9 rfl; have e10 := blk_cell k3 10 rfl)
          | (go_at_call 12; refine (samePlan_any p p A4 B4 A B m4 n4 m n _ (by first | exact ho4 | exact ho4.below (Below.refl _ _).drew) (by first | exact hp4 | exact hp4.below (Below.refl _ _).drew) (by first | exact ho.below hbel4 | exact ho.below hbel4.drew) (by first | exact hp.below hbel4 | exact hp.below hbel4.drew)).mono ?_; rintro e w5 ⟨rfl, hb5⟩; have hbel5 : Below w.heap.size w w5 := (by first | exact hbel4.trans (hb5.mono hbel4.size) | exact hbel4.drew.trans (hb5.mono hbel4.size)); have k5 := (by first | exact blk_below hb5 k3 | exact blk_below hb5 (blk_drew k3) : w5.heap[w.heap.size]? = _); have e0 := blk_cell k5 0 rfl; have e1 := blk_cell k5 1 rfl; have e2 := blk_cell k5 2 rfl; have e3 := blk_cell k5 3 rfl; have e4 := blk_cell k5 4 rfl; have e5 := blk_cell k5 5 rfl; have e6 := blk_cell k5 6 rfl; have e7 := blk_cell k5 7 rfl; have e8 := blk_cell k5 8 rfl; have e9 := blk_cell k5 9 rfl; have e10 := blk_cell k5 10 rfl))
      all_goals go_wp2
      all_goals go_ret
      all_goals exact ⟨rfl, hbel5⟩
    · have hgf : goodP p = false := by simpa using hg
      have HG := Lib.hid hgf; clear hg hgf
      go_wp2_with (first
        | (go_at_call 10; refine (few_any p A B m n _ (ho.below hbel) (hp.below hbel)).mono ?_; rintro e w2 ⟨rfl, hb⟩; have k1 := blk_below hb k0; have hbel2 := hbel.trans (hb.mono hbel.size); have e0 := blk_cell k1 0 rfl; have e1 := blk_cell k1 1 rfl; have e2 := blk_cell k1 2 rfl; have e3 := blk_cell k1 3 rfl; have e4 := blk_cell k1 4 rfl; have e5 := blk_cell k1 5 rfl; have e6 := blk_cell k1 6 rfl; have e7 := blk_cell k1 7 rfl; have e8 := blk_cell k1 8 rfl; have e9 := blk_cell k1 9 rfl; have e10 := blk_cell k1 10 rfl)
        | (go_at_call 11; refine (sput_any p A B m n _ (ho.below hbel2) (hp.below hbel2)).mono ?_; rintro e w3 ⟨_, hn, hb3⟩; obtain rfl := hn HG.out; have hbel3 := hbel2.trans (hb3.mono hbel2.size)))
      go_ret
      exact ⟨rfl, hbel3⟩
  · have hff : fewB p = false := by simpa using hf
    clear hf
    go_wp2_with (go_at_call 10; refine (few_any p A B m n _ (ho.below hbel) (hp.below hbel)).mono ?_; rintro e w2 ⟨rfl, hb⟩; have hbel2 := hbel.trans (hb.mono hbel.size))
    go_ret
    exact ⟨rfl, hbel2⟩
end Go.Proofs.Ytnkcgakmajdmcaa
