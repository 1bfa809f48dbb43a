/-
  The program's plain data, as Lean structures, and the words for what path.May and op.Check answer. No program is in sight.
-/
import Derived.WalkKit
import Derived.Lib.Hide
namespace Go.Proofs.Ytnkcgakmajdmcaa
open Go.RowKit

theorem ret_bool {b c : Bool} (h : b = c) : Ending.returned (.bool b) = .returned (.bool c) := by rw [h]
theorem ret_int {k : IntKind} {a b : Int} (h : a = b) : Ending.returned (.int k a) = .returned (.int k b) := by rw [h]

/-- what a call that writes nothing old leaves to the walk: old cells, old marks, the size -/
theorem bcell {W w1 : World} (hb : Below W.heap.size W w1) : (∀ b o, b < W.heap.size → w1.cell? ⟨b, o, none⟩ = W.cell? ⟨b, o, none⟩) ∧ (∀ b o, b < W.heap.size → w1.frozen? ⟨b, o, none⟩ = W.frozen? ⟨b, o, none⟩) ∧ W.heap.size ≤ w1.heap.size :=
  ⟨fun b o h => hb.cell (p := ⟨b, o, none⟩) h, fun b o h => hb.frozen (p := ⟨b, o, none⟩) h, hb.size⟩
theorem blk_cell {W : World} {B : Nat} {c : Array Value} {e : TypeId} {f : Nat × Nat} (h : W.heap[B]? = some (.cells c e f)) (o : Nat) {v : Value} (hv : c[o]? = some v) : W.cell? ⟨B, o, none⟩ = some v := by
  simp [World.cell?, h, hv]
theorem blk_free {W : World} {B : Nat} {c : Array Value} {e : TypeId} (h : W.heap[B]? = some (.cells c e (0, 0))) (o : Nat) : W.frozen? ⟨B, o, none⟩ = false := by
  simp [World.frozen?, h]
theorem blk_new (w : World) (o : Obj) (b : Nat) (hb : w.heap.size = b) : (w.alloc o).heap[b]? = some o := by subst hb; show (w.heap.push o)[w.heap.size]? = _; simp
theorem blk_old {w : World} {o : Obj} {b : Nat} {x : Obj} (h : w.heap[b]? = some x) : (w.alloc o).heap[b]? = some x := by
  have hlt : b < w.heap.size := by
    rcases Nat.lt_or_ge b w.heap.size with g | g
    · exact g
    · rw [Array.getElem?_eq_none g] at h; cases h
  rw [Below.heap_alloc _ _ _ hlt]; exact h
theorem blk_below {w w' : World} (hb : Below w.heap.size w w') {b : Nat} {x : Obj} (h : w.heap[b]? = some x) : w'.heap[b]? = some x := by
  have hlt : b < w.heap.size := by
    rcases Nat.lt_or_ge b w.heap.size with g | g
    · exact g
    · rw [Array.getElem?_eq_none g] at h; cases h
  rw [hb.block b hlt]; exact h
theorem size_alloc (w : World) (o : Obj) {n : Nat} (h : w.heap.size = n) : (w.alloc o).heap.size = n + 1 := by subst h; show (w.heap.push o).size = _; simp
/-- a call behind a new block -/
theorem Below.after1 {w w1 : World} {o : Obj} (hb : Below (w.alloc o).heap.size (w.alloc o) w1) : Below w.heap.size w w1 :=
  ((Below.refl _ _).alloc (Nat.le_refl _) _).trans (hb.mono (by simp))
theorem Below.one (w : World) (o : Obj) : Below w.heap.size w (w.alloc o) := (Below.refl _ _).alloc (Nat.le_refl _) _
theorem Below.two (w : World) (o o' : Obj) : Below w.heap.size w ((w.alloc o).alloc o') := (Below.one w o).alloc (by simp) _

theorem Below.three (w : World) (o o' o'' : Obj) : Below w.heap.size w (((w.alloc o).alloc o').alloc o'') := (Below.two w o o').alloc (by simp <;> omega) _

structure Path where
  (a b c d k : Int)
  deriving DecidableEq

def Path.zero : Path := ⟨0, 0, 0, 0, 0⟩
def Path.nth (p : Path) : Nat → Int | 0 => p.a | 1 => p.b | 2 => p.c | _ => p.d
/-- all fields are ints of 64 bits -/
def in64 (n : Int) : Prop := -9223372036854775808 ≤ n ∧ n ≤ 9223372036854775807

def okN (d i n : Int) : Bool := decide (0 ≤ n) && decide (n ≤ 999) && (decide (i < d) || decide (n = 0))
def mayB (p : Path) : Bool := decide (1 ≤ p.k) && decide (p.k ≤ 4) && okN p.k 0 p.a && okN p.k 1 p.b && okN p.k 2 p.c && okN p.k 3 p.d

theorem okN_t {d i n : Int} (h1 : 0 ≤ n) (h2 : n ≤ 999) (h3 : i < d ∨ n = 0) : okN d i n = true := by simp [okN, *]
theorem okN_f {d i n : Int} (h : n < 0 ∨ 999 < n ∨ (d ≤ i ∧ n ≠ 0)) : okN d i n = false := by
  by_cases h' : okN d i n = true
  · simp [okN] at h'; omega
  · simpa using h'
theorem may_f {p : Path} (k : Nat) (hk : k < 4) (h : okN p.k k (p.nth k) = false) : mayB p = false := by
  have : k = 0 ∨ k = 1 ∨ k = 2 ∨ k = 3 := by omega
  rcases this with rfl | rfl | rfl | rfl <;> simp [Path.nth] at h <;> simp [mayB, h]
theorem may_t {p : Path} (h1 : 1 ≤ p.k) (h2 : p.k ≤ 4) (h : ∀ k : Nat, k < 4 → okN p.k k (p.nth k) = true) : mayB p = true := by
  have h0 := h 0 (by omega); have h1' := h 1 (by omega); have h2' := h 2 (by omega); have h3 := h 3 (by omega)
  simp [Path.nth] at h0 h1' h2' h3
  simp [mayB, *]
theorem mayB_iff {p : Path} : mayB p = true ↔ 1 ≤ p.k ∧ p.k ≤ 4 ∧ (0 ≤ p.a ∧ p.a ≤ 999 ∧ (0 < p.k ∨ p.a = 0)) ∧ (0 ≤ p.b ∧ p.b ≤ 999 ∧ (1 < p.k ∨ p.b = 0)) ∧
    (0 ≤ p.c ∧ p.c ≤ 999 ∧ (2 < p.k ∨ p.c = 0)) ∧ (0 ≤ p.d ∧ p.d ≤ 999 ∧ (3 < p.k ∨ p.d = 0)) := by
  simp [mayB, okN, and_assoc]

structure Oper where
  kind : Int
  p : Path
  v : Int
  deriving DecidableEq

/-- op.Check: 0, or 60. -/
def okOp (o : Oper) : Bool :=
  (((o.kind = 1 ∨ o.kind = 6 ∨ o.kind = 7) && o.p = Path.zero) || (o.kind = 5 && mayB o.p) || ((o.kind = 2 ∨ o.kind = 3 ∨ o.kind = 4) && mayB o.p && o.p.k = 4))
    && decide (0 ≤ o.v) && decide (o.v ≤ (if o.kind = 4 then 1073741824 else 0))
def checkN (o : Oper) : Int := if okOp o then 0 else 60

/-- api.Config -/
structure Cfg where
  (cl po vi he re la ti gr ck : Int)
  deriving DecidableEq
def wi (n l m : Int) : Bool := decide (l ≤ n) && decide (n ≤ m)
theorem wi_iff {n l m : Int} : wi n l m = true ↔ l ≤ n ∧ n ≤ m := by simp [wi]
def isB (n : Int) : Prop := 0 ≤ n ∧ n < 256
def cfgOf (b0 b1 b2 b3 b4 b5 b6 b7 : Int) : Cfg := ⟨1 + b0 % 8, b1 % 4, b2 % 2, 1 + b3, 1 + 4 * b4, 1 + b5 % 8, 1 + b6, b7 % 16, 1048576⟩
def eqC (c d : Cfg) : Bool := decide (c = d)
def right1 (c : Cfg) : Bool := wi c.cl 1 8 && (wi c.he 1 256 && (wi c.re 1 1024 && wi c.la 1 64))
def right2 (c : Cfg) : Bool := wi c.po 0 3 && wi c.vi 0 1
def right3 (c : Cfg) : Bool := decide (1 ≤ c.ti) && (decide (c.ti ≤ 1000) && (decide (0 ≤ c.ck) && decide (c.ck ≤ 1099511627776)))
def rightB (c : Cfg) : Bool := right1 c && (right2 c && (right3 c && wi c.gr 0 100))

/-- '==' of two structs, field by field: by the fields' types and places alone -/
def eqF (D : Nat) (xs ys : Array Value) : List (TypeId × Nat) → Sem Bool
  | [] => pure true
  | (t, o) :: fs => do
    let a ← part t xs o
    let b ← part t ys o
    let r ← Op.equalIn D t a b
    if (!r) = true then pure false else eqF D xs ys fs
theorem eqFields_eqF (D : Nat) (xs ys : Array Value) (fs : List Field) (h : fs.all (fun f => decide (f.name ≠ "_")) = true) : Op.eqFields D xs ys fs = eqF D xs ys (fs.map fun f => (f.type, f.offset)) := by
  induction fs with
  | nil => rfl
  | cons f fs ih =>
    simp only [List.all_cons, Bool.and_eq_true, decide_eq_true_eq] at h
    simp only [Op.eqFields, List.map_cons, eqF, if_pos h.1, ih h.2]
theorem run_equalIn_fields {P : Program} (w : World) (D : Nat) (t : TypeId) (xs ys : Array Value) (l : List (TypeId × Nat)) (ht : P.underlying t = some (.struct (P.fieldsOf t))) (hp : P.stoodInHeld t = false)
    (hn : (P.fieldsOf t).toList.all (fun f => decide (f.name ≠ "_")) = true) (hl : (P.fieldsOf t).toList.map (fun f => (f.type, f.offset)) = l) :
    (Op.equalIn (D + 1) t (.agg xs) (.agg ys)).run P w = (eqF D xs ys l).run P w := by
  rw [run_equalIn_struct w D t xs ys ht hp, eqFields_eqF _ _ _ _ hn, hl]
/-- one field more, whose reading and comparing are known -/
theorem run_eqF_cons {P : Program} {D : Nat} {xs ys : Array Value} {t : TypeId} {o : Nat} {l : List (TypeId × Nat)} {a b : Value} {r s : Bool} {w : World}
    (ha : (part t xs o).run P w = .ok a w) (hb : (part t ys o).run P w = .ok b w) (hr : (Op.equalIn D t a b).run P w = .ok r w) (hs : (eqF D xs ys l).run P w = .ok s w) :
    (eqF D xs ys ((t, o) :: l)).run P w = .ok (r && s) w := by
  simp only [eqF, Sem.run_bind, ha, hb, hr, Result.andThen_ok]
  cases r
  · simp only [Bool.not_false, if_true, Sem.run_pure, Bool.false_and]
  · simp only [Bool.not_true, Bool.false_eq_true, if_false, hs, Bool.true_and]
theorem run_eqF_nil {P : Program} {D : Nat} {xs ys : Array Value} {w : World} : (eqF D xs ys []).run P w = .ok true w := rfl

end Go.Proofs.Ytnkcgakmajdmcaa
