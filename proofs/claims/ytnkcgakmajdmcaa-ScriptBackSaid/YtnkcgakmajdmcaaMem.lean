/-
  How a slice is read: kinds of elements, and the cells of each element. No program is in sight.
-/
import Derived.Test.YtnkcgakmajdmcaaData
import Derived.Deep.Draws
namespace Go.Proofs.Ytnkcgakmajdmcaa
open Go.RowKit

theorem pw_drewN {B : Nat} {w W : World} (h : Below B w W) (n : Nat) : Below B w (W.drewN n) := ⟨h.os, h.tape, h.output, h.size, h.block⟩

/-- only draws lie between -/
def Drawn (w w' : World) : Prop := ∃ n, w' = w.drewN n
theorem Drawn.refl (w : World) : Drawn w w := ⟨0, rfl⟩
theorem Drawn.of (w : World) (n : Nat) : Drawn w (w.drewN n) := ⟨n, rfl⟩
theorem Drawn.step {w w' : World} (h : Drawn w w') (n : Nat) : Drawn w (w'.drewN n) := by
  obtain ⟨m, rfl⟩ := h; exact ⟨m + n, World.drewN_drewN ..⟩
theorem Drawn.drew {w w' : World} (h : Drawn w w') : Drawn w w'.drew := h.step 1
theorem Drawn.below {w w' : World} (h : Drawn w w') {B : Nat} : Below B w w' := by
  obtain ⟨m, rfl⟩ := h; exact pw_drewN (Below.refl _ _) m
theorem Drawn.cell {w w' : World} (h : Drawn w w') (a : Addr) : w'.cell? a = w.cell? a := by
  obtain ⟨m, rfl⟩ := h; rfl

theorem cell_below {w w1 : World} (hb : Below w.heap.size w w1) {a : Addr} {v : Value} (h : w.cell? a = some v) : w1.cell? a = some v := (hb.cell (World.block_lt_of_cell? w a h)).trans h

theorem cell_one {w : World} {a : Addr} {v : Value} (h : w.cell? a = some v) (o : Obj) : (w.alloc o).cell? a = some v := by
  rw [World.cell?_alloc_lt w o a (World.block_lt_of_cell? w a h)]; exact h
theorem below_size {B : Nat} {w w1 : World} (h : Below B w w1) (hB : B ≤ w.heap.size) : B ≤ w1.heap.size := Nat.le_trans hB h.size
theorem cell_drew {w : World} {a : Addr} {v : Value} (h : w.cell? a = some v) : w.drew.cell? a = some v := h

/-- a kind of elements: how many cells, what they say, and that it stays while nothing old is written -/
structure Kd (α : Type) where
  sz : Nat
  K : World → α → List Value → Prop
  mono : ∀ {w w1 : World} {x : α} {cs : List Value}, Below w.heap.size w w1 → K w x cs → K w1 x cs

/-- elements without memory of their own -/
def flat {α : Type} (sz : Nat) (enc : α → List Value) : Kd α := ⟨sz, fun _ x cs => cs = enc x, fun _ h => h⟩

/-- the slice of length xs.length at A, of capacity c, reads as xs -/
structure Sl {α : Type} (d : Kd α) (w : World) (A : Option Addr) (c : Nat) (xs : List α) : Prop where
  le : xs.length ≤ c
  top : c ≤ 9223372036854775807
  nil : A = none → c = 0
  get : ∀ i x, xs[i]? = some x → ∃ b off cs, A = some ⟨b, off, none⟩ ∧ d.K w x cs ∧ ∀ j v, cs[j]? = some v → w.cell? ⟨b, off + i * d.sz + j, none⟩ = some v

theorem Sl.nil_ {α : Type} (d : Kd α) (w : World) : Sl d w none 0 ([] : List α) := ⟨by simp, by simp, fun _ => rfl, fun i x h => by simp at h⟩

theorem Sl.below {α : Type} {d : Kd α} {w w1 : World} {A : Option Addr} {c : Nat} {xs : List α} (h : Sl d w A c xs) (hb : Below w.heap.size w w1) : Sl d w1 A c xs :=
  ⟨h.le, h.top, h.nil, fun i x hx => by
    obtain ⟨b, off, cs, rfl, hk, hc⟩ := h.get i x hx
    exact ⟨b, off, cs, rfl, d.mono hb hk, fun j v hj => (hb.cell (World.block_lt_of_cell? w _ (hc j v hj))).trans (hc j v hj)⟩⟩

theorem Sl.flat_at {α : Type} {sz : Nat} {enc : α → List Value} {w : World} {A : Option Addr} {c : Nat} {xs : List α} (h : Sl (flat sz enc) w A c xs) {k : Nat} (hk : k < xs.length) :
    ∃ b off, A = some ⟨b, off, none⟩ ∧ ∀ j v, (enc xs[k])[j]? = some v → w.cell? ⟨b, off + k * sz + j, none⟩ = some v := by
  obtain ⟨b, off, cs, rfl, rfl, hc⟩ := h.get k xs[k] (by simp [hk])
  exact ⟨b, off, rfl, hc⟩

theorem take_succ_eq {α : Type} {xs ys : List α} {k : Nat} (hx : k < xs.length) (hy : k < ys.length) (h : xs.take k = ys.take k) (e : xs[k] = ys[k]) : xs.take (k + 1) = ys.take (k + 1) := by
  rw [List.take_succ_eq_append_getElem hx, List.take_succ_eq_append_getElem hy, h, e]
theorem take_all_eq {α : Type} {xs ys : List α} {k : Nat} (hl : xs.length = ys.length) (hk : xs.length ≤ k) (h : xs.take k = ys.take k) : xs = ys := by
  rwa [List.take_of_length_le hk, List.take_of_length_le (by omega)] at h
theorem ne_of_getElem {α : Type} {xs ys : List α} {k : Nat} (hx : k < xs.length) (hy : k < ys.length) (e : xs[k] ≠ ys[k]) : xs ≠ ys := by
  rintro rfl; exact e rfl

def kInt : Kd Int := flat 1 fun n => [.int .i64 n]
def kByte : Kd Int := flat 1 fun n => [.int .u8 n]
def encPath (p : Path) : List Value := [.int .i64 p.a, .int .i64 p.b, .int .i64 p.c, .int .i64 p.d, .int .i64 p.k]
def encOper (o : Oper) : List Value := [.int .i64 o.kind, .int .i64 o.p.a, .int .i64 o.p.b, .int .i64 o.p.c, .int .i64 o.p.d, .int .i64 o.p.k, .int .i64 o.v]
def kOper : Kd Oper := flat 7 encOper

theorem Sl.int_at {w : World} {A : Option Addr} {c : Nat} {xs : List Int} (h : Sl kInt w A c xs) {k : Nat} (hk : k < xs.length) :
    ∃ b off, A = some ⟨b, off, none⟩ ∧ w.cell? ⟨b, off + k, none⟩ = some (.int .i64 xs[k]) := by
  obtain ⟨b, off, rfl, hc⟩ := Sl.flat_at h hk
  exact ⟨b, off, rfl, by simpa using hc 0 _ rfl⟩
theorem Sl.byte_at {w : World} {A : Option Addr} {c : Nat} {xs : List Int} (h : Sl kByte w A c xs) {k : Nat} (hk : k < xs.length) :
    ∃ b off, A = some ⟨b, off, none⟩ ∧ w.cell? ⟨b, off + k, none⟩ = some (.int .u8 xs[k]) := by
  obtain ⟨b, off, rfl, hc⟩ := Sl.flat_at h hk
  exact ⟨b, off, rfl, by simpa using hc 0 _ rfl⟩
theorem Sl.oper_at {w : World} {A : Option Addr} {c : Nat} {xs : List Oper} (h : Sl kOper w A c xs) {k : Nat} (hk : k < xs.length) :
    ∃ b off, A = some ⟨b, off, none⟩ ∧ w.cell? ⟨b, off + k * 7, none⟩ = some (.int .i64 xs[k].kind) ∧ w.cell? ⟨b, off + k * 7 + 1, none⟩ = some (.int .i64 xs[k].p.a) ∧
      w.cell? ⟨b, off + k * 7 + 2, none⟩ = some (.int .i64 xs[k].p.b) ∧ w.cell? ⟨b, off + k * 7 + 3, none⟩ = some (.int .i64 xs[k].p.c) ∧ w.cell? ⟨b, off + k * 7 + 4, none⟩ = some (.int .i64 xs[k].p.d) ∧
      w.cell? ⟨b, off + k * 7 + 5, none⟩ = some (.int .i64 xs[k].p.k) ∧ w.cell? ⟨b, off + k * 7 + 6, none⟩ = some (.int .i64 xs[k].v) := by
  obtain ⟨b, off, rfl, hc⟩ := Sl.flat_at h hk
  exact ⟨b, off, rfl, hc 0 _ rfl, hc 1 _ rfl, hc 2 _ rfl, hc 3 _ rfl, hc 4 _ rfl, hc 5 _ rfl, hc 6 _ rfl⟩

/-- slices as elements -/
def kSl {α : Type} (d : Kd α) : Kd (List α) := ⟨1, fun w xs cs => ∃ A c, cs = [.slice A xs.length c] ∧ Sl d w A c xs, fun hb ⟨A, c, e, h⟩ => ⟨A, c, e, h.below hb⟩⟩
theorem Sl.sl_at {α : Type} {d : Kd α} {w : World} {A : Option Addr} {c : Nat} {xs : List (List α)} (h : Sl (kSl d) w A c xs) {k : Nat} (hk : k < xs.length) :
    ∃ b off A' c', A = some ⟨b, off, none⟩ ∧ w.cell? ⟨b, off + k, none⟩ = some (.slice A' xs[k].length c') ∧ Sl d w A' c' xs[k] := by
  obtain ⟨b, off, cs, rfl, ⟨A', c', rfl, hs⟩, hc⟩ := h.get k xs[k] (by simp [hk])
  exact ⟨b, off, A', c', rfl, by simpa [kSl] using hc 0 _ rfl, hs⟩

theorem Sl.drewN {α : Type} {d : Kd α} {w : World} {A : Option Addr} {c : Nat} {xs : List α} (h : Sl d w A c xs) (n : Nat) : Sl d (w.drewN n) A c xs := h.below (pw_drewN (Below.refl _ _) n)

/-- xs[j:] -/
theorem Sl.cut {α : Type} {d : Kd α} {P : Program} {w : World} {A : Option Addr} {c : Nat} {xs : List α} (h : Sl d w A c xs) (t e : TypeId) {i : TypeInfo} (ht : P.underlying t = some (.slice e)) (hi : P.info? e = some i) (hsz : i.size = d.sz) (j : Nat) (hj : j ≤ xs.length) :
    ∃ A' : Option Addr, (∀ W : World, (Instr.slice t (.slice A xs.length c) (some (.int .i64 (j : Int))) none none).run P W = .ok (.slice A' (xs.drop j).length (c - j)) W) ∧ Sl d w A' (c - j) (xs.drop j) := by
  have hle := h.le
  refine ⟨if c = j then A else A.map (·.add (j * d.sz)), fun W => ?_, ⟨by rw [List.length_drop]; omega, by have := h.top; omega, ?_, ?_⟩⟩
  · have hel : P.elem t = e := by simp [Program.elem, ht]
    have hu : P.underlying t = some (.slice (P.elem t)) := by rw [hel]; exact ht
    rw [run_slice_l W t A xs.length c hu .i64 (j : Int) (Int.natCast_nonneg _) (by omega), hel, List.length_drop]
    simp [sizeOf, typeInfo, hi, hsz, sliced, Result.andThen]
  · split
    · intro _; omega
    · cases A with
      | none => intro _; have := h.nil rfl; omega
      | some a => intro hh; cases hh
  · intro k x hx
    rw [List.getElem?_drop] at hx
    obtain ⟨b, off, cs, rfl, hk, hc⟩ := h.get (j + k) x hx
    have hlt : j + k < xs.length := by
      rcases Nat.lt_or_ge (j + k) xs.length with q | q
      · exact q
      · rw [List.getElem?_eq_none q] at hx; cases hx
    rw [if_neg (by omega)]
    refine ⟨b, off + j * d.sz, cs, ?_, hk, fun r v hr => ?_⟩
    · simp only [Option.map_some, Option.some.injEq]
      unfold Addr.add; split <;> simp_all
    · rw [show off + j * d.sz + k * d.sz + r = off + (j + k) * d.sz + r by rw [Nat.add_mul]; omega]
      exact hc r v hr
theorem Sl.tail {α : Type} {d : Kd α} {P : Program} {w : World} {A : Option Addr} {c : Nat} {x : α} {xs : List α} (h : Sl d w A c (x :: xs)) (t e : TypeId) {i : TypeInfo} (ht : P.underlying t = some (.slice e)) (hi : P.info? e = some i) (hsz : i.size = d.sz) :
    ∃ A' : Option Addr, (∀ W : World, (Instr.slice t (.slice A (xs.length + 1) c) (some (.int .i64 1)) none none).run P W = .ok (.slice A' xs.length (c - 1)) W) ∧ Sl d w A' (c - 1) xs :=
  h.cut t e ht hi hsz 1 (by simp)

/-- api.Plan -/
structure Plan where
  c : Cfg
  ops : List (List Oper)
  picks : List Int
  deriving DecidableEq
end Go.Proofs.Ytnkcgakmajdmcaa
