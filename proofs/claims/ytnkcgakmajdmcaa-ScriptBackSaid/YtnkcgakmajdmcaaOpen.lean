/-
  How arguments that read as data read as the proof's own lists: slices of whatever, operations, plans.
-/
import Derived.Test.YtnkcgakmajdmcaaOwn
import Derived.Test.YtnkcgakmajdmcaaProg
import Derived.ProofKit
import Derived.OpenShut
import Derived.Deep.Slices
import Derived.Laws.IdiomArrays
namespace Go.Proofs.Ytnkcgakmajdmcaa
open Go.RowKit Go.ChangeShapes Go.WideShapes Go.Deep

section
variable {H : Type} {enc : TypeId × Value → H} {P : Program} {w : World} {base : Nat} {spare : Nat → Bool} {held : Bool}

/-- whatever reads at a type reads by a kind -/
def Opens (enc : TypeId × Value → H) (P : Program) (w : World) (base : Nat) (spare : Nat → Bool) (held : Bool) {α : Type} (d : Kd α) (e : TypeId) : Prop :=
  ∀ fuel cs y, DataW.trod enc P w base spare held fuel e cs = some y → ∃ x, d.K w x cs

theorem exists_list {α : Type} (Q : Nat → α → Prop) : ∀ (n : Nat), (∀ i, i < n → ∃ x, Q i x) → ∃ xs : List α, xs.length = n ∧ ∀ i x, xs[i]? = some x → Q i x
  | 0, _ => ⟨[], rfl, fun i x h => by simp at h⟩
  | n + 1, h => by
    obtain ⟨xs, hl, hx⟩ := exists_list Q n fun i hi => h i (by omega)
    obtain ⟨y, hy⟩ := h n (by omega)
    refine ⟨xs ++ [y], by simp [hl], fun i x hi => ?_⟩
    rcases Nat.lt_or_ge i xs.length with q | q
    · rw [List.getElem?_append_left q] at hi; exact hx i x hi
    · rw [List.getElem?_append_right q] at hi
      have hi0 : i - xs.length = 0 := by
        rcases Nat.eq_zero_or_pos (i - xs.length) with g | g
        · exact g
        · rw [List.getElem?_eq_none (by simp only [List.length_singleton]; omega)] at hi; cases hi
      rw [hi0] at hi
      simp at hi; subst hi
      obtain rfl : i = n := by omega
      exact hy

theorem opens_int {t : TypeId} (ht : P.underlying t = some (.int .i64)) : Opens enc P w base spare held kInt t := fun fuel cs y h => by
  obtain ⟨n, rfl, _, _⟩ := DataW.trod_int ht h
  exact ⟨n, rfl⟩
/-- where the elements tell nothing more: a plain slice -/
theorem opens_sl {α : Type} {d : Kd α} {t e : TypeId} (ht : P.underlying t = some (.slice e)) (hc : P.cellsOf e = d.sz) (h0 : 0 < d.sz) (hE : Opens enc P w base spare held d e) : Opens enc P w base spare held (kSl d) t := fun fuel cs y h => by
  rcases open_slice ht h with ⟨rfl, _⟩ | ⟨a, len, cap, m, n, D, Pl, rfl, hb, hl, hm, hmm, hx, hi⟩
  · exact ⟨[], none, 0, rfl, Sl.nil_ _ _⟩
  · have hlm : len ≤ m := by rw [hmm]; split <;> omega
    obtain ⟨xs, hxl, hxs⟩ := exists_list (fun i x => ∃ cs', w.cells? base (a.add (i * P.cellsOf e)) (P.cellsOf e) = some cs' ∧ d.K w x cs') len fun i hil => by
      obtain ⟨cs', h1, h2⟩ := hi i (by omega)
      obtain ⟨x, hx⟩ := hE n cs' _ h2
      exact ⟨x, cs', h1, hx⟩
    refine ⟨xs, some a, cap, by rw [hxl], by omega, by simpa [maxLen] using hm, (fun e => by cases e), fun i x hix => ?_⟩
    obtain ⟨cs', h1, h2⟩ := hxs i x hix
    obtain ⟨_, hcl, hat⟩ := World.cells?_some h1
    have hspot : a.spot = none := by
      have hxl0 : 0 < xs.length := by
        rcases Nat.eq_zero_or_pos xs.length with g | g
        · rw [List.getElem?_eq_none (by omega)] at hix; cases hix
        · exact g
      obtain ⟨c0, k1, _⟩ := hxs 0 _ (List.getElem?_eq_getElem hxl0)
      obtain ⟨_, hcl0, hat0⟩ := World.cells?_some k1
      have hz := hat0 0 (by omega)
      rw [List.getElem?_eq_getElem (by omega)] at hz
      have := World.cell?_spot hz
      simpa [Addr.add] using this
    obtain ⟨b, off, spot⟩ := a
    simp only at hspot; subst hspot
    refine ⟨b, off, cs', rfl, h2, fun j v hj => ?_⟩
    have hjl : j < P.cellsOf e := by
      rcases Nat.lt_or_ge j cs'.length with q | q
      · omega
      · rw [List.getElem?_eq_none q] at hj; cases hj
    have hat2 := hat j hjl
    rw [hj] at hat2
    have e1 : (((⟨b, off, none⟩ : Addr).add (i * P.cellsOf e)).add j) = ⟨b, off + i * P.cellsOf e + j, none⟩ := by
      rw [addr_add, addr_add]
    rw [e1, hc] at hat2; exact hat2
end

section
variable {H : Type} {enc : TypeId × Value → H} {w : World} {base : Nat} {spare : Nat → Bool} {held : Bool}
theorem cells_int : Try.prog.cellsOf 3 = 1 := by kernel_rfl
theorem cells_arr4 : Try.prog.cellsOf 46 = 4 := by kernel_rfl
theorem cells_path : Try.prog.cellsOf 48 = 5 := by kernel_rfl
theorem cells_op : Try.prog.cellsOf 50 = 7 := by kernel_rfl
theorem cells_ops : Try.prog.cellsOf 100 = 1 := by kernel_rfl
theorem cells_int64 : Try.prog.cellsOf 2 = 1 := by kernel_rfl

set_option maxRecDepth 100000 in
theorem open_path {fuel : Nat} {cs : List Value} {y : DataW H × List MemPlace} (h : DataW.trod enc Try.prog w base spare held fuel 48 cs = some y) : ∃ p : Path, cs = encPath p := by
  obtain ⟨xs, n, _, _, hl, hlen, hg⟩ := DataW.trod_struct Try.underlying48 h
  rw [cells_path] at hl
  match cs, hl with
  | [c0, c1, c2, c3, c4], _ =>
    match xs, hlen with
    | [y0, y1], _ =>
      have g0 : DataW.trod enc Try.prog w base spare held n 46 (([c0, c1, c2, c3, c4].drop 0).take (Try.prog.cellsOf 46)) = some y0 := hg 0 _ rfl
      have g1 : DataW.trod enc Try.prog w base spare held n 3 (([c0, c1, c2, c3, c4].drop 4).take (Try.prog.cellsOf 3)) = some y1 := hg 1 _ rfl
      simp only [cells_arr4, cells_int, List.drop_zero, List.take_succ_cons, List.take_zero] at g0
      obtain ⟨z0, z1, z2, z3, m, _, a0, a1, a2, a3⟩ := trod_array4 Try.underlying46 cells_int g0
      simp only [cells_int, List.drop_succ_cons, List.drop_zero, List.take_succ_cons, List.take_zero] at g1
      obtain ⟨n0, e0, _, _⟩ := DataW.trod_int Try.underlying3 a0
      obtain ⟨n1, e1, _, _⟩ := DataW.trod_int Try.underlying3 a1
      obtain ⟨n2, e2, _, _⟩ := DataW.trod_int Try.underlying3 a2
      obtain ⟨n3, e3, _, _⟩ := DataW.trod_int Try.underlying3 a3
      obtain ⟨n4, e4, _, _⟩ := DataW.trod_int Try.underlying3 g1
      simp only [List.cons.injEq, and_true] at e0 e1 e2 e3 e4
      subst e0; subst e1; subst e2; subst e3; subst e4
      exact ⟨⟨n0, n1, n2, n3, n4⟩, rfl⟩
set_option maxRecDepth 100000 in
theorem open_op {fuel : Nat} {cs : List Value} {y : DataW H × List MemPlace} (h : DataW.trod enc Try.prog w base spare held fuel 50 cs = some y) : ∃ o : Oper, cs = encOper o := by
  obtain ⟨xs, n, _, _, hl, hlen, hg⟩ := DataW.trod_struct Try.underlying50 h
  rw [cells_op] at hl
  match cs, hl with
  | [c0, c1, c2, c3, c4, c5, c6], _ =>
    match xs, hlen with
    | [y0, y1, y2], _ =>
      have g0 : DataW.trod enc Try.prog w base spare held n 3 (([c0, c1, c2, c3, c4, c5, c6].drop 0).take (Try.prog.cellsOf 3)) = some y0 := hg 0 _ rfl
      have g1 : DataW.trod enc Try.prog w base spare held n 48 (([c0, c1, c2, c3, c4, c5, c6].drop 1).take (Try.prog.cellsOf 48)) = some y1 := hg 1 _ rfl
      have g2 : DataW.trod enc Try.prog w base spare held n 3 (([c0, c1, c2, c3, c4, c5, c6].drop 6).take (Try.prog.cellsOf 3)) = some y2 := hg 2 _ rfl
      simp only [cells_path, cells_int, List.drop_succ_cons, List.drop_zero, List.take_succ_cons, List.take_zero] at g0 g1 g2
      obtain ⟨n0, e0, _, _⟩ := DataW.trod_int Try.underlying3 g0
      obtain ⟨p, e1⟩ := open_path g1
      obtain ⟨n2, e2, _, _⟩ := DataW.trod_int Try.underlying3 g2
      simp only [encPath, List.cons.injEq, and_true] at e0 e1 e2
      obtain ⟨rfl, rfl, rfl, rfl, rfl⟩ := e1
      subst e0; subst e2
      exact ⟨⟨n0, p, n2⟩, rfl⟩
theorem opens_op : Opens enc Try.prog w base spare held kOper 50 := fun fuel cs y h => by
  obtain ⟨o, rfl⟩ := open_op h
  exact ⟨o, rfl⟩
theorem opens_ops : Opens enc Try.prog w base spare held (kSl kOper) 100 := opens_sl Try.underlying100 cells_op (by decide) opens_op
theorem opens_opss : Opens enc Try.prog w base spare held (kSl (kSl kOper)) 24 := opens_sl Try.underlying24 cells_ops (by decide) opens_ops
theorem opens_ints : Opens enc Try.prog w base spare held (kSl kInt) 25 := opens_sl Try.underlying25 cells_int (by decide) (opens_int Try.underlying3)
theorem cells_cfg : Try.prog.cellsOf 23 = 9 := by kernel_rfl
theorem cells_plan : Try.prog.cellsOf 27 = 11 := by kernel_rfl
theorem cells_opss : Try.prog.cellsOf 24 = 1 := by kernel_rfl
theorem cells_ints : Try.prog.cellsOf 25 = 1 := by kernel_rfl
set_option maxRecDepth 100000 in
theorem open_cfg {fuel : Nat} {cs : List Value} {y : DataW H × List MemPlace} (h : DataW.trod enc Try.prog w base spare held fuel 23 cs = some y) :
    ∃ c : Cfg, cs = [.int .i64 c.cl, .int .i64 c.po, .int .i64 c.vi, .int .i64 c.he, .int .i64 c.re, .int .i64 c.la, .int .i64 c.ti, .int .i64 c.gr, .int .i64 c.ck] := by
  obtain ⟨xs, n, _, _, hl, hlen, hg⟩ := DataW.trod_struct Try.underlying23 h
  rw [cells_cfg] at hl
  match cs, hl with
  | [c0, c1, c2, c3, c4, c5, c6, c7, c8], _ =>
    match xs, hlen with
    | [y0, y1, y2, y3, y4, y5, y6, y7, y8], _ =>
      have g0 : DataW.trod enc Try.prog w base spare held n 3 (([c0, c1, c2, c3, c4, c5, c6, c7, c8].drop 0).take (Try.prog.cellsOf 3)) = some y0 := hg 0 _ rfl
      have g1 : DataW.trod enc Try.prog w base spare held n 3 (([c0, c1, c2, c3, c4, c5, c6, c7, c8].drop 1).take (Try.prog.cellsOf 3)) = some y1 := hg 1 _ rfl
      have g2 : DataW.trod enc Try.prog w base spare held n 3 (([c0, c1, c2, c3, c4, c5, c6, c7, c8].drop 2).take (Try.prog.cellsOf 3)) = some y2 := hg 2 _ rfl
      have g3 : DataW.trod enc Try.prog w base spare held n 3 (([c0, c1, c2, c3, c4, c5, c6, c7, c8].drop 3).take (Try.prog.cellsOf 3)) = some y3 := hg 3 _ rfl
      have g4 : DataW.trod enc Try.prog w base spare held n 3 (([c0, c1, c2, c3, c4, c5, c6, c7, c8].drop 4).take (Try.prog.cellsOf 3)) = some y4 := hg 4 _ rfl
      have g5 : DataW.trod enc Try.prog w base spare held n 3 (([c0, c1, c2, c3, c4, c5, c6, c7, c8].drop 5).take (Try.prog.cellsOf 3)) = some y5 := hg 5 _ rfl
      have g6 : DataW.trod enc Try.prog w base spare held n 2 (([c0, c1, c2, c3, c4, c5, c6, c7, c8].drop 6).take (Try.prog.cellsOf 2)) = some y6 := hg 6 _ rfl
      have g7 : DataW.trod enc Try.prog w base spare held n 3 (([c0, c1, c2, c3, c4, c5, c6, c7, c8].drop 7).take (Try.prog.cellsOf 3)) = some y7 := hg 7 _ rfl
      have g8 : DataW.trod enc Try.prog w base spare held n 2 (([c0, c1, c2, c3, c4, c5, c6, c7, c8].drop 8).take (Try.prog.cellsOf 2)) = some y8 := hg 8 _ rfl
      simp only [cells_int, cells_int64, List.drop_succ_cons, List.drop_zero, List.take_succ_cons, List.take_zero] at g0 g1 g2 g3 g4 g5 g6 g7 g8
      obtain ⟨n0, e0, _, _⟩ := DataW.trod_int Try.underlying3 g0
      obtain ⟨n1, e1, _, _⟩ := DataW.trod_int Try.underlying3 g1
      obtain ⟨n2, e2, _, _⟩ := DataW.trod_int Try.underlying3 g2
      obtain ⟨n3, e3, _, _⟩ := DataW.trod_int Try.underlying3 g3
      obtain ⟨n4, e4, _, _⟩ := DataW.trod_int Try.underlying3 g4
      obtain ⟨n5, e5, _, _⟩ := DataW.trod_int Try.underlying3 g5
      obtain ⟨n6, e6, _, _⟩ := DataW.trod_int Try.underlying2 g6
      obtain ⟨n7, e7, _, _⟩ := DataW.trod_int Try.underlying3 g7
      obtain ⟨n8, e8, _, _⟩ := DataW.trod_int Try.underlying2 g8
      simp only [List.cons.injEq, and_true] at e0 e1 e2 e3 e4 e5 e6 e7 e8
      subst e0; subst e1; subst e2; subst e3; subst e4; subst e5; subst e6; subst e7; subst e8
      exact ⟨⟨n0, n1, n2, n3, n4, n5, n6, n7, n8⟩, rfl⟩

set_option maxRecDepth 100000 in
theorem open_plan {r : Reach} {b0 : Nat} {v : Value} {d : DataW H} {q : List MemPlace} (hv : Value.okWide Try.prog w r b0 27 v) (h : DataW.Trod enc Try.prog w base spare held 27 v d q) :
    ∃ (p : Plan) (A B : Option Addr) (m n : Nat), v = .agg #[.int .i64 p.c.cl, .int .i64 p.c.po, .int .i64 p.c.vi, .int .i64 p.c.he, .int .i64 p.c.re, .int .i64 p.c.la, .int .i64 p.c.ti, .int .i64 p.c.gr, .int .i64 p.c.ck, .slice A p.ops.length m, .slice B p.picks.length n] ∧
      Sl (kSl kOper) w A m p.ops ∧ Sl kInt w B n p.picks := by
  obtain ⟨cs, rfl, hsz⟩ := okWide_struct Try.underlying27 hv
  rw [cells_plan] at hsz
  obtain ⟨l⟩ := cs
  match l, hsz with
  | [c0, c1, c2, c3, c4, c5, c6, c7, c8, c9, c10], _ =>
    obtain ⟨fuel, hf⟩ := h
    obtain ⟨xs, n, _, hx, hl, hlen, hg⟩ := DataW.trod_struct Try.underlying27 hf
    match xs, hlen with
    | [y0, y1, y2], _ =>
      have g0 : DataW.trod enc Try.prog w base spare held n 23 (((#[c0, c1, c2, c3, c4, c5, c6, c7, c8, c9, c10] : Array Value).toList.drop 0).take (Try.prog.cellsOf 23)) = some y0 := hg 0 _ rfl
      have g1 : DataW.trod enc Try.prog w base spare held n 24 (((#[c0, c1, c2, c3, c4, c5, c6, c7, c8, c9, c10] : Array Value).toList.drop 9).take (Try.prog.cellsOf 24)) = some y1 := hg 1 _ rfl
      have g2 : DataW.trod enc Try.prog w base spare held n 25 (((#[c0, c1, c2, c3, c4, c5, c6, c7, c8, c9, c10] : Array Value).toList.drop 10).take (Try.prog.cellsOf 25)) = some y2 := hg 2 _ rfl
      simp only [Value.cells, cells_cfg, cells_opss, cells_ints, List.drop_succ_cons, List.drop_zero, List.take_succ_cons, List.take_zero] at g0 g1 g2
      obtain ⟨c, e0⟩ := open_cfg g0
      obtain ⟨ops, A, m, e1, h1⟩ := opens_opss _ _ _ g1
      obtain ⟨picks, B, k, e2, h2⟩ := opens_ints _ _ _ g2
      simp only [List.cons.injEq, and_true] at e0 e1 e2
      obtain ⟨rfl, rfl, rfl, rfl, rfl, rfl, rfl, rfl, rfl⟩ := e0
      subst e1; subst e2
      exact ⟨⟨c, ops, picks⟩, A, B, m, k, rfl, h1, h2⟩
end
end Go.Proofs.Ytnkcgakmajdmcaa
