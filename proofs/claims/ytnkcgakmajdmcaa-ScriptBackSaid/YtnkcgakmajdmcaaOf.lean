/-
  The walk through op.Of: the operation with whose bytes others begin.
-/
import Derived.Test.YtnkcgakmajdmcaaReader
import Derived.Test.YtnkcgakmajdmcaaOp
import Derived.Deep.DeepCutAuto
import Derived.Deep.RegionHeld3
import Derived.Deep.CutBlock
namespace Go.Proofs.Ytnkcgakmajdmcaa
open Go.RowKit

def rdAt (bs : List Int) (from_ n : Nat) : Int := rdV (bs.drop from_) n
def ofKind (bs : List Int) : Int := rdAt bs 0 1 / 8
def ofDepth (bs : List Int) : Int := rdAt bs 0 1 % 8
def ofD (bs : List Int) : Nat := min (ofDepth bs).toNat 4
def ofNum (bs : List Int) (i j : Nat) : Int := if j < i then rdAt bs (1 + 2 * j) 2 else 0
def ofTotal (bs : List Int) : Nat := 1 + 2 * ofD bs + (if ofKind bs = 4 then 4 else 0)
def ofOp (bs : List Int) : Oper :=
  ⟨ofKind bs, ⟨ofNum bs (ofD bs) 0, ofNum bs (ofD bs) 1, ofNum bs (ofD bs) 2, ofNum bs (ofD bs) 3, ofDepth bs⟩, if ofKind bs = 4 then rdAt bs (1 + 2 * ofD bs) 4 else 0⟩
def ofOk (bs : List Int) : Bool := decide (ofTotal bs ≤ bs.length) && okOp (ofOp bs)

theorem rdV_bd (bs : List Int) (h : ∀ b ∈ bs, isB b) (n : Nat) : 0 ≤ rdV bs n ∧ rdV bs n < 256 ^ n := by
  unfold rdV
  split
  · exact ⟨Int.le_refl _, Int.pow_pos (by omega)⟩
  · have h1 := val_bd (bs.take n) fun b hb => h b (List.mem_of_mem_take hb)
    have h2 : (bs.take n).length = n := by rw [List.length_take]; omega
    rw [h2] at h1; exact h1
theorem rdAt_bd (bs : List Int) (h : ∀ b ∈ bs, isB b) (a n : Nat) : 0 ≤ rdAt bs a n ∧ rdAt bs a n < 256 ^ n := rdV_bd _ (fun b hb => h b (List.mem_of_mem_drop hb)) n
theorem rdS_more (bs : List Int) (a n : Nat) (b : Bool) : rdS (decide (bs.length < a) || b) (bs.drop a) n = (decide (bs.length < a + n) || b) := by
  unfold rdS
  rw [Bool.eq_iff_iff]; simp only [Bool.or_eq_true, decide_eq_true_eq, List.length_drop]
  constructor
  · rintro ((h | h) | h)
    · exact .inl (by omega)
    · exact .inr h
    · exact .inl (by omega)
  · rintro (h | h)
    · by_cases h2 : bs.length < a
      · exact .inl (.inl h2)
      · exact .inr (by omega)
    · exact .inl (.inr h)

def OfPost (bs : List Int) (w : World) (e : Ending) (w' : World) : Prop :=
  (ofOk bs = true → e = .returned (.tuple #[.agg #[.int .i64 (ofOp bs).kind, .int .i64 (ofOp bs).p.a, .int .i64 (ofOp bs).p.b, .int .i64 (ofOp bs).p.c, .int .i64 (ofOp bs).p.d, .int .i64 (ofOp bs).p.k, .int .i64 (ofOp bs).v], .int .i64 (ofTotal bs), .int .i64 0])) ∧
  (ofOk bs = false → e = .returned (.tuple #[.agg #[.int .i64 0, .int .i64 0, .int .i64 0, .int .i64 0, .int .i64 0, .int .i64 0, .int .i64 0], .int .i64 0, .int .i64 60])) ∧ Below w.heap.size w w'

set_option maxRecDepth 1000000 in
set_option maxHeartbeats 2000000 in
theorem of_any (bs : List Int) (A : Option Addr) (c : Nat) (w : World) (hby : ∀ b ∈ bs, isB b) (hs : Sl kByte w A c bs) :
    Calls Try.prog 59 #[.slice A bs.length c] w (OfPost bs w) := by
  have hle := hs.le; have htop := hs.top
  go_enter Try.func59, Try.ntmps59
  go_upto_region 2 with (fail)
  generalize hW : ((w.alloc _).alloc _) = W
  have hbel : Below w.heap.size w W := by subst hW; exact Below.two _ _ _
  generalize hB : w.heap.size = B at *
  have k0 : W.heap[B]? = some (.cells #[.int .i64 0, .int .i64 0, .int .i64 0, .int .i64 0, .int .i64 0, .int .i64 0, .int .i64 0] 50 (0, 0)) := by subst hW; exact blk_old (blk_new _ _ _ hB)
  have k1 : W.heap[B + 1]? = some (.cells #[.slice A bs.length c, .bool false] 142 (0, 0)) := by subst hW; exact blk_new _ _ _ (size_alloc _ _ hB)
  have HB := Lib.hid hB; clear hB hW
  go_upto_region 3 with (go_at_call 88; refine (reader_any (B + 1) w bs A c false 1 _ (by omega) hby hs (by rw [HB.out]; exact hbel) (by rw [HB.out]; omega) k1).mono ?_; rintro e w1 ⟨A1, c1, rfl, hs1, k11, hg1⟩)
  have hf := rdV_bd bs hby 1
  have hfk : ofKind bs = rdV bs 1 / 8 := rfl
  have hfd : ofDepth bs = rdV bs 1 % 8 := rfl
  generalize hfv : rdV bs 1 = f at *
  obtain ⟨hf0, hf1⟩ := hf
  replace hf1 : f < 256 := by simpa using hf1
  have HFK := Lib.hid hfk; have HFD := Lib.hid hfd; clear hfk hfd hfv
  have hz1 := hg1.size
  have k01 := blk_grown k0 hg1 (by simp)
  have hbel1 := hbel.grown hg1 (by rw [HB.out.symm]; exact Nat.le_trans (Nat.le_refl _) hbel.size) (fun q hq => by injection hq with hq; omega)
  have hand := i64_and7 f hf0 hf1
  go_upto_block 0 with (fail)
  have hd0 : 0 ≤ f % 8 ∧ f % 8 ≤ 7 := by omega
  obtain ⟨hd1, hd2⟩ := hd0
  clear hand
  generalize hW1 : (w1.alloc _) = W1
  have hbel2 : Below B w W1 := by subst hW1; exact hbel1.alloc (by have := hbel1.size; have := HB.out; omega) _
  have k02 := blk_old (o := .cells #[.int .i64 (f / 8), .int .i64 0, .int .i64 0, .int .i64 0, .int .i64 0, .int .i64 (f % 8), .int .i64 0] 50) k01
  have k12 := blk_old (o := .cells #[.int .i64 (f / 8), .int .i64 0, .int .i64 0, .int .i64 0, .int .i64 0, .int .i64 (f % 8), .int .i64 0] 50) k11
  have kh2 := blk_new w1 (.cells #[.int .i64 (f / 8), .int .i64 0, .int .i64 0, .int .i64 0, .int .i64 0, .int .i64 (f % 8), .int .i64 0] 50) _ rfl
  rw [hW1] at k02 k12 kh2
  have hBH : B + 1 < w1.heap.size := blk_lt k11
  generalize w1.heap.size = H at *
  clear hW1 k01 k11 hbel1 hz1 hg1 hbel k0 k1
  go_cut [] (fun wr => ∃ (i : Nat) (A' : Option Addr) (c' : Nat), Hid (i = ofD bs) ∧ Below B w wr ∧ Sl kByte w A' c' (bs.drop (1 + 2 * i)) ∧
      Hid (wr.heap[B]? = some (.cells #[.int .i64 0, .int .i64 0, .int .i64 0, .int .i64 0, .int .i64 0, .int .i64 0, .int .i64 0] 50 (0, 0))) ∧
      Hid (wr.heap[B + 1]? = some (.cells #[.slice A' (bs.drop (1 + 2 * i)).length c', .bool (decide (bs.length < 1 + 2 * i))] 142 (0, 0))) ∧
      Hid (wr.heap[H]? = some (.cells #[.int .i64 (f / 8), .int .i64 (ofNum bs i 0), .int .i64 (ofNum bs i 1), .int .i64 (ofNum bs i 2), .int .i64 (ofNum bs i 3), .int .i64 (f % 8), .int .i64 0] 50 (0, 0))))
  case first =>
    go_upto_region 6 with (fail)
    go_loopw [8] (fun iv wr => ∃ (i : Nat) (A' : Option Addr) (c' : Nat), iv = .int .i64 i ∧ i ≤ 4 ∧ (i : Int) ≤ f % 8 ∧ Below B w wr ∧ Sl kByte w A' c' (bs.drop (1 + 2 * i)) ∧
        Hid (wr.heap[B]? = some (.cells #[.int .i64 0, .int .i64 0, .int .i64 0, .int .i64 0, .int .i64 0, .int .i64 0, .int .i64 0] 50 (0, 0))) ∧
        Hid (wr.heap[B + 1]? = some (.cells #[.slice A' (bs.drop (1 + 2 * i)).length c', .bool (decide (bs.length < 1 + 2 * i))] 142 (0, 0))) ∧
        Hid (wr.heap[H]? = some (.cells #[.int .i64 (f / 8), .int .i64 (ofNum bs i 0), .int .i64 (ofNum bs i 1), .int .i64 (ofNum bs i 2), .int .i64 (ofNum bs i 3), .int .i64 (f % 8), .int .i64 0] 50 (0, 0)))) (fun iv _ => 4 - (intOf iv).toNat)
    case atStart => exact ⟨0, A1, c1, rfl, by omega, by omega, hbel2, hs1, k02, (by simpa [rdS] using k12 : W1.heap[B + 1]? = some (.cells #[.slice A1 (bs.drop (1 + 2 * 0)).length c1, .bool (decide (bs.length < 1 + 2 * 0))] 142 (0, 0))), kh2⟩
    case round =>
      clear hbel2 hs1 k02 k12 kh2
      obtain ⟨i, A', c', rfl, hi4, hid, hbel, hs', k0, k1, kh⟩ := hrel
      have hBw := HB.out
      have hb0 : Below w.heap.size w wr := by rw [hBw]; exact hbel
      by_cases hlt : (i : Int) < f % 8 ∧ i < 4
      · obtain ⟨hl1, hl2⟩ := hlt
        have e5 := blk_cell kh.out 5 rfl
        clear hBw
        have hi4' : i = 0 ∨ i = 1 ∨ i = 2 ∨ i = 3 := by omega
        have hvr : rdV (bs.drop (1 + 2 * i)) 2 = rdAt bs (1 + 2 * i) 2 := rfl
        have HVR := Lib.hid hvr; clear hvr
        have hcase : ∃ u : Value, (#[.int .i64 (f / 8), .int .i64 (ofNum bs i 0), .int .i64 (ofNum bs i 1), .int .i64 (ofNum bs i 2), .int .i64 (ofNum bs i 3), .int .i64 (f % 8), .int .i64 0] : Array Value)[1 + i]? = some u := by rcases hi4' with rfl | rfl | rfl | rfl <;> exact ⟨_, rfl⟩
        obtain ⟨u0, hu0⟩ := hcase
        have HU0 := Lib.hid hu0; clear hu0
        have hby' : ∀ b ∈ bs.drop (1 + 2 * i), isB b := fun b hb => hby b (List.mem_of_mem_drop hb)
        clear hi4'
        go_wp2_with (go_at_call 88; refine (reader_any (B + 1) w (bs.drop (1 + 2 * i)) A' c' (decide (bs.length < 1 + 2 * i)) 2 _ (by omega) hby' hs' hb0 (by rw [HB.out]; omega) k1.out).mono ?_; rintro e w2 ⟨A2, c2, rfl, hs2, k2, hg2⟩; have kh2 := blk_grown kh.out hg2 (by simp; omega); have f0 := blk_cell kh2 (1 + i) HU0.out; have fr := blk_free kh2 (1 + i))
        go_roundw
        case rel =>
          have hi4' : i = 0 ∨ i = 1 ∨ i = 2 ∨ i = 3 := by omega
          have hd : (bs.drop (1 + 2 * i)).drop 2 = bs.drop (1 + 2 * (i + 1)) := by rw [List.drop_drop]; congr 1
          have hbf : rdS (decide (bs.length < 1 + 2 * i)) (bs.drop (1 + 2 * i)) 2 = decide (bs.length < 1 + 2 * (i + 1)) := by
            have := rdS_more bs (1 + 2 * i) 2 false
            simp only [Bool.or_false] at this
            rw [this]; congr 1
          rw [hd] at hs2
          rw [hd, hbf] at k2
          have k0' := blk_grown k0.out hg2 (by simp)
          refine ⟨i + 1, A2, c2, by go_num, by omega, by omega, ?_, hs2, ?_, ?_, ?_⟩
          · exact (hbel.grown hg2 (by have := hb0.size; have := HB.out; omega) (fun q hq => by injection hq with hq; omega)).setCell (by show B ≤ H; omega) _
          · exact blk_far k0' (by show B ≠ H; omega) _
          · exact blk_far k2 (by show B + 1 ≠ H; omega) _
          · have := blk_set kh2 (1 + i) (.int .i64 (rdV (bs.drop (1 + 2 * i)) 2))
            show _ = _
            rw [this, HVR.out]
            rcases hi4' with rfl | rfl | rfl | rfl <;> simp [ofNum]
        case measure => simp [intOf] <;> omega
      · have hex : i = ofD bs := by
          have h1 := HFD.out
          unfold ofD; rw [h1]; omega
        have HX := Lib.hid hex
        have e5 := blk_cell kh.out 5 rfl
        by_cases hl : (i : Int) < f % 8
        · have hl2 : ¬ i < 4 := fun h => hlt ⟨hl, h⟩
          go_wp2
          go_meet
          exact ⟨i, A', c', HX.out, hbel, hs', k0, k1, kh⟩
        · go_wp2
          go_meet
          exact ⟨i, A', c', HX.out, hbel, hs', k0, k1, kh⟩
  case rest =>
  clear hbel2 k02 k12 kh2 hs1
  obtain ⟨i, A', c', HX, hbel, hs', k0, k1, kh⟩ := hcut
  have hb0 : Below w.heap.size w wc := by rw [HB.out]; exact hbel
  have hfk2 : 0 ≤ f / 8 := by omega
  have ek := blk_cell kh.out 0 rfl
  obtain ⟨V, hV⟩ : ∃ V, V = (ofOp bs).v := ⟨_, rfl⟩
  have HV := Lib.hid hV; clear hV
  go_upto_if 40 with (fail)
  go_cut [] (fun wr => ∃ (A2 : Option Addr) (c2 : Nat), Below B w wr ∧ Sl kByte w A2 c2 (bs.drop (ofTotal bs)) ∧
      Hid (wr.heap[B]? = some (.cells #[.int .i64 0, .int .i64 0, .int .i64 0, .int .i64 0, .int .i64 0, .int .i64 0, .int .i64 0] 50 (0, 0))) ∧
      Hid (wr.heap[B + 1]? = some (.cells #[.slice A2 (bs.drop (ofTotal bs)).length c2, .bool (decide (bs.length < ofTotal bs))] 142 (0, 0))) ∧
      Hid (wr.heap[H]? = some (.cells #[.int .i64 (f / 8), .int .i64 (ofNum bs i 0), .int .i64 (ofNum bs i 1), .int .i64 (ofNum bs i 2), .int .i64 (ofNum bs i 3), .int .i64 (f % 8), .int .i64 V] 50 (0, 0))))
  case first =>
    by_cases h4 : f / 8 = 4
    · have h4b : (f / 8 == 4) = true := by simp [h4]
      have H4 := Lib.hid h4; clear h4
      have hby' : ∀ b ∈ bs.drop (1 + 2 * i), isB b := fun b hb => hby b (List.mem_of_mem_drop hb)
      have htot : ofTotal bs = 1 + 2 * i + 4 := by unfold ofTotal; rw [HFK.out, if_pos H4.out, ← HX.out]
      have hv : V = rdV (bs.drop (1 + 2 * i)) 4 := by rw [HV.out]; unfold ofOp; rw [HFK.out]; simp only [if_pos H4.out]; rw [← HX.out]; rfl
      have HT := Lib.hid htot; clear htot
      have HVV := Lib.hid hv; clear hv
      go_wp2_with (go_at_call 88; refine (reader_any (B + 1) w (bs.drop (1 + 2 * i)) A' c' (decide (bs.length < 1 + 2 * i)) 4 _ (by omega) hby' hs' hb0 (by rw [HB.out]; omega) k1.out).mono ?_; rintro e w2 ⟨A2, c2, rfl, hs2, k2, hg2⟩; have kh2 := blk_grown kh.out hg2 (by simp; omega); have f0 := blk_cell kh2 6 rfl; have fr := blk_free kh2 6)
      go_meet
      have hd : (bs.drop (1 + 2 * i)).drop 4 = bs.drop (ofTotal bs) := by rw [List.drop_drop, HT.out]
      have hbf : rdS (decide (bs.length < 1 + 2 * i)) (bs.drop (1 + 2 * i)) 4 = decide (bs.length < ofTotal bs) := by
        have := rdS_more bs (1 + 2 * i) 4 false
        simp only [Bool.or_false] at this
        rw [this, HT.out]
      rw [hd] at hs2
      rw [hd, hbf] at k2
      have k0' := blk_grown k0.out hg2 (by simp)
      refine ⟨A2, c2, ?_, hs2, ?_, ?_, ?_⟩
      · exact (hbel.grown hg2 (by have := hb0.size; have := HB.out; omega) (fun q hq => by injection hq with hq; omega)).setCell (by show B ≤ H; omega) _
      · exact blk_far k0' (by show B ≠ H; omega) _
      · exact blk_far k2 (by show B + 1 ≠ H; omega) _
      · have := blk_set kh2 6 (.int .i64 (rdV (bs.drop (1 + 2 * i)) 4))
        show _ = _
        rw [this, HVV.out]; rfl
    · have h4b : (f / 8 == 4) = false := by simp [h4]
      have H4 := Lib.hid h4; clear h4
      go_wp2
      go_meet
      have htot : ofTotal bs = 1 + 2 * i := by unfold ofTotal; rw [HFK.out, if_neg H4.out, ← HX.out]; rfl
      have hv : V = 0 := by rw [HV.out]; unfold ofOp; rw [HFK.out]; simp only [if_neg H4.out]
      rw [htot, hv]
      exact ⟨A', c', hbel, hs', k0, k1, kh⟩
  case rest =>
  clear hbel hs' k0 k1 kh ek hb0
  obtain ⟨A2, c2, hbel, hs', k0, k1, kh⟩ := hcut
  have hop : ofOp bs = ⟨f / 8, ⟨ofNum bs i 0, ofNum bs i 1, ofNum bs i 2, ofNum bs i 3, f % 8⟩, V⟩ := by
    rw [HV.out, HX.out]; unfold ofOp; rw [HFK.out, HFD.out]
  have hchk : checkN (ofOp bs) = if okOp (ofOp bs) then 0 else 60 := rfl
  have HOP := Lib.hid hop; clear hop
  have hbB : w.heap.size = B := HB.out
  have hsz : B + 1 < wc.heap.size := blk_lt k1.out
  have g0 := blk_cell k0.out 0 rfl; have g1 := blk_cell k0.out 1 rfl; have g2 := blk_cell k0.out 2 rfl; have g3 := blk_cell k0.out 3 rfl; have g4 := blk_cell k0.out 4 rfl; have g5 := blk_cell k0.out 5 rfl; have g6 := blk_cell k0.out 6 rfl
  have gf := blk_free k0.out
  have r0 := blk_cell k1.out 0 rfl; have r1 := blk_cell k1.out 1 rfl
  by_cases hbad : bs.length < ofTotal bs
  · have hok : Hid (ofOk bs = false) := by show _ = _; simp [ofOk]; intro h; omega
    have hbb : decide (bs.length < ofTotal bs) = true := by simp [hbad]
    rw [hbb] at r1
    clear hbb hbad hbB
    go_wp2
    refine bodyPost_ret (v := .tuple #[.agg #[.int .i64 0, .int .i64 0, .int .i64 0, .int .i64 0, .int .i64 0, .int .i64 0, .int .i64 0], .int .i64 0, .int .i64 60]) ?_ rfl ⟨fun e => by (rw [hok.out] at e; cases e), fun _ => rfl, ?_⟩
    · simp [results, Try.results59, go_sem, g0, g1, g2, g3, g4, g5, g6, World.cell?_setCell_far]
    · rw [HB.out]
      refine below_set (below_set (below_set (below_set (below_set (below_set (below_set ?_ (Nat.le_refl _) _ _) (Nat.le_refl _) _ _) (Nat.le_refl _) _ _) (Nat.le_refl _) _ _) (Nat.le_refl _) _ _) (Nat.le_refl _) _ _) (Nat.le_refl _) _ _
      exact hbel
  · have hbb : decide (bs.length < ofTotal bs) = false := by simp [hbad]
    rw [hbb] at r1
    have HBAD := Lib.hid hbad
    clear hbb hbad
    have e0 := blk_cell kh.out 0 rfl; have e1 := blk_cell kh.out 1 rfl; have e2 := blk_cell kh.out 2 rfl; have e3 := blk_cell kh.out 3 rfl; have e4 := blk_cell kh.out 4 rfl; have e5 := blk_cell kh.out 5 rfl; have e6 := blk_cell kh.out 6 rfl
    have hHs : H < wc.heap.size := blk_lt kh.out
    have hBs : B < wc.heap.size := by omega
    clear hbB
    by_cases hko : okOp (ofOp bs) = true
    · have hok : Hid (ofOk bs = true) := by show _ = _; have := HBAD.out; simp [ofOk, hko]; omega
      have hcb : (checkN (ofOp bs) != 0) = false := by simp [checkN, hko]
      rw [HOP.out] at hcb
      clear hchk hko
      go_upto_region 13 with (go_at_call 54; refine (check_any ⟨f / 8, ⟨ofNum bs i 0, ofNum bs i 1, ofNum bs i 2, ofNum bs i 3, f % 8⟩, V⟩ _).mono ?_; rintro e w3 ⟨rfl, hb⟩; obtain ⟨hc, hf, hz⟩ := bcell hb; (try simp only [World.size_drew, World.cell?_drew, World.frozen?_drew] at hc hf hz))
      have hHB1 : ¬ H = B := by omega
      have hHB3 : ¬ B = H := by omega
      have hHB4 : ¬ B = B + 1 := by omega
      have hHB2 : ¬ B + 1 = B := by omega
      go_region_held3 (fun w' => w'.cell? ⟨H, 0, none⟩ = some (.int .i64 (f / 8)) ∧ w'.cell? ⟨H, 1, none⟩ = some (.int .i64 (ofNum bs i 0)) ∧ w'.cell? ⟨H, 2, none⟩ = some (.int .i64 (ofNum bs i 1)) ∧ w'.cell? ⟨H, 3, none⟩ = some (.int .i64 (ofNum bs i 2)) ∧ w'.cell? ⟨H, 4, none⟩ = some (.int .i64 (ofNum bs i 3)) ∧ w'.cell? ⟨H, 5, none⟩ = some (.int .i64 (f % 8)) ∧ w'.cell? ⟨H, 6, none⟩ = some (.int .i64 (V)) ∧ w'.cell? ⟨B + 1, 0, none⟩ = some (.slice A2 (bs.drop (ofTotal bs)).length c2)) (go_keep) (fail)
      all_goals go_wp2
      have hcl : IntKind.i64.wrap ((bs.length : Int) - ((bs.length - ofTotal bs : Nat) : Int)) = (ofTotal bs : Int) := by
        have h1 := HBAD.out
        have h3 : (bs.length : Int) - ((bs.length - ofTotal bs : Nat) : Int) = (ofTotal bs : Int) := by omega
        rw [h3]; exact IntWalk.i64_in _ (by omega)
      rw [hcl]
      refine bodyPost_ret (v := .tuple #[.agg #[.int .i64 (ofOp bs).kind, .int .i64 (ofOp bs).p.a, .int .i64 (ofOp bs).p.b, .int .i64 (ofOp bs).p.c, .int .i64 (ofOp bs).p.d, .int .i64 (ofOp bs).p.k, .int .i64 (ofOp bs).v], .int .i64 (ofTotal bs), .int .i64 0]) ?_ rfl ⟨fun _ => rfl, fun e => by (rw [hok.out] at e; cases e), ?_⟩
      · rw [HOP.out]
        simp [results, Try.results59, go_sem, g0, g1, g2, g3, g4, g5, g6, hc, hBs, World.cell?_setCell_far, World.cell?_setCell_same]
      · rw [HB.out]
        refine Below.drew ?_
        refine below_set (below_set (below_set (below_set (below_set (below_set (below_set ?_ (Nat.le_refl _) _ _) (Nat.le_refl _) _ _) (Nat.le_refl _) _ _) (Nat.le_refl _) _ _) (Nat.le_refl _) _ _) (Nat.le_refl _) _ _) (Nat.le_refl _) _ _
        exact hbel.trans (hb.mono (Nat.le_of_lt hBs))
    · have hok : Hid (ofOk bs = false) := by show _ = _; simp [ofOk, hko]
      have hcb : (checkN (ofOp bs) != 0) = true := by simp [checkN, hko]
      rw [HOP.out] at hcb
      clear hchk hko
      go_wp2_with (go_at_call 54; refine (check_any ⟨f / 8, ⟨ofNum bs i 0, ofNum bs i 1, ofNum bs i 2, ofNum bs i 3, f % 8⟩, V⟩ _).mono ?_; rintro e w3 ⟨rfl, hb⟩; obtain ⟨hc, hf, hz⟩ := bcell hb; (try simp only [World.size_drew, World.cell?_drew, World.frozen?_drew] at hc hf hz))
      refine bodyPost_ret (v := .tuple #[.agg #[.int .i64 0, .int .i64 0, .int .i64 0, .int .i64 0, .int .i64 0, .int .i64 0, .int .i64 0], .int .i64 0, .int .i64 60]) ?_ rfl ⟨fun e => by (rw [hok.out] at e; cases e), fun _ => rfl, ?_⟩
      · simp [results, Try.results59, go_sem, g0, g1, g2, g3, g4, g5, g6, hc, hBs, World.cell?_setCell_far]
      · rw [HB.out]
        refine below_set (below_set (below_set (below_set (below_set (below_set (below_set ?_ (Nat.le_refl _) _ _) (Nat.le_refl _) _ _) (Nat.le_refl _) _ _) (Nat.le_refl _) _ _) (Nat.le_refl _) _ _) (Nat.le_refl _) _ _) (Nat.le_refl _) _ _
        exact hbel.trans (hb.mono (Nat.le_of_lt hBs))
end Go.Proofs.Ytnkcgakmajdmcaa
