/-
  Slices of the call's own (made by it, or handed to it to be appended to): elements without memory of their own. No program is in sight.
-/
import Derived.Test.YtnkcgakmajdmcaaMem
import Derived.Maps.AppendAt
import Derived.Laws.AppendOwnNone
import Derived.Deep.AppendLies
namespace Go.Proofs.Ytnkcgakmajdmcaa
open Go.RowKit

/-- v is a slice of the call's own, of elements xs (type e, sz cells each) -/
def OwnF {α : Type} (enc : α → List Value) (sz : Nat) (e : TypeId) (base : Nat) (w : World) (v : Value) (xs : List α) : Prop := w.ownsRow base e sz v xs.length (xs.flatMap enc)

/-- where v now lies: where it lay, or in new memory -/
def Moved (W : World) (v v1 : Value) : Prop := v1.ownBlock = v.ownBlock ∨ ∃ b, v1.ownBlock = some b ∧ W.heap.size ≤ b

theorem OwnF.nil {α : Type} (enc : α → List Value) (sz : Nat) (e : TypeId) (base : Nat) (w : World) : OwnF enc sz e base w (.slice none 0 0) ([] : List α) := World.ownsRow_nil _ _ _ _
theorem own_lt {w : World} {base : Nat} {e : TypeId} {size n : Nat} {v : Value} {xs : List Value} (h : w.ownsRow base e size v n xs) (k : Nat) (hk : v.ownBlock = some k) : base ≤ k ∧ k < w.heap.size := h.lt k hk

theorem grown_refl (w : World) (row : Option Nat) : w.grownBy w row := ⟨rfl, rfl, rfl, Nat.le_refl _, fun _ _ _ => rfl⟩
theorem grown_trans {w w1 w2 : World} {row row1 : Option Nat} (h : w.grownBy w1 row) (k : w1.grownBy w2 row1) (hr : row1 = row ∨ ∃ b, row1 = some b ∧ w.heap.size ≤ b) : w.grownBy w2 row := by
  refine ⟨k.os.trans h.os, k.tape.trans h.tape, k.output.trans h.output, Nat.le_trans h.size k.size, fun i hi hne => ?_⟩
  refine (k.block i (Nat.lt_of_lt_of_le hi h.size) fun e => ?_).trans (h.block i hi hne)
  rcases hr with hr | ⟨b, hb, hle⟩
  · exact hne (e.trans hr)
  · rw [hb] at e; injection e with e; omega
theorem grown_below {w w1 : World} (h : Below w.heap.size w w1) (row : Option Nat) : w.grownBy w1 row := ⟨h.os, h.tape, h.output, h.size, fun i hi _ => h.block i hi⟩
theorem below_grown {w0 w w1 : World} {B : Nat} {row : Option Nat} (h : Below B w0 w) (hg : w.grownBy w1 row) (hB : B ≤ w.heap.size) (hr : ∀ k, row = some k → B ≤ k) : Below B w0 w1 := h.grown hg hB hr
theorem Moved.refl (W : World) (v : Value) : Moved W v v := .inl rfl
theorem Moved.trans {W W1 : World} {v v1 v2 : Value} (h : Moved W v v1) (k : Moved W1 v1 v2) (hs : W.heap.size ≤ W1.heap.size) : Moved W v v2 := by
  rcases k with k | ⟨b, hb, hle⟩
  · rcases h with h | ⟨b, hb, hle⟩
    · exact .inl (k.trans h)
    · exact .inr ⟨b, k.trans hb, hle⟩
  · exact .inr ⟨b, hb, by omega⟩
theorem Moved.row {W : World} {v v1 : Value} (h : Moved W v v1) : v1.ownBlock = v.ownBlock ∨ ∃ b, v1.ownBlock = some b ∧ W.heap.size ≤ b := h
/-- the own block is none of an elder world's blocks but v's -/
theorem Moved.ne {W : World} {v v1 : Value} (h : Moved W v v1) {k : Nat} (hk : k < W.heap.size) (hne : some k ≠ v.ownBlock) : some k ≠ v1.ownBlock := by
  rcases h with h | ⟨b, hb, hle⟩
  · rw [h]; exact hne
  · rw [hb]; intro e; injection e with e; omega
theorem own_base {w : World} {base : Nat} {e : TypeId} {size n : Nat} {v : Value} {xs : List Value} (h : w.ownsRow base e size v n xs) : ∀ k, v.ownBlock = some k → base ≤ k := fun k hk => (h.lt k hk).1
theorem OwnF.base_ {α : Type} {enc : α → List Value} {sz : Nat} {e : TypeId} {base : Nat} {w : World} {v : Value} {xs : List α} (h : OwnF enc sz e base w v xs) : ∀ k, v.ownBlock = some k → base ≤ k := own_base h
theorem OwnF.other {α : Type} {enc : α → List Value} {sz : Nat} {e : TypeId} {base : Nat} {w w1 : World} {v : Value} {xs : List α} (h : OwnF enc sz e base w v xs) {row : Option Nat} (hg : w.grownBy w1 row) (hne : v.ownBlock = none ∨ v.ownBlock ≠ row) : OwnF enc sz e base w1 v xs := World.ownsRow.kept h hg hne
theorem OwnF.below {α : Type} {enc : α → List Value} {sz : Nat} {e : TypeId} {base : Nat} {w w1 : World} {v : Value} {xs : List α} (h : OwnF enc sz e base w v xs) (hb : Below w.heap.size w w1) : OwnF enc sz e base w1 v xs := by
  refine World.ownsRow.kept h (grown_below hb none) ?_
  cases v.ownBlock <;> simp

theorem blk_drew {w : World} {g : Nat} {o : Obj} (h : w.heap[g]? = some o) : w.drew.heap[g]? = some o := h
theorem blk_set {w : World} {g : Nat} {t : TypeId} {cs : Array Value} (h : w.heap[g]? = some (.cells cs t (0, 0))) (i : Nat) (u : Value) : (w.setCell ⟨g, i, none⟩ u).heap[g]? = some (.cells (cs.setIfInBounds i u) t (0, 0)) := by
  simp [World.setCell, Array.getElem?_modify, h]
theorem blk_far {w : World} {g : Nat} {o : Obj} (h : w.heap[g]? = some o) {p : Addr} (hp : g ≠ p.block) (u : Value) : (w.setCell p u).heap[g]? = some o := (Below.heap_setCell w p u g hp).trans h
theorem grown_set (w : World) (R i : Nat) (u : Value) : w.grownBy (w.setCell ⟨R, i, none⟩ u) (some R) := ⟨rfl, rfl, rfl, by simp [World.setCell], fun k _ hne => Below.heap_setCell _ _ _ _ (fun e => hne (by rw [e]))⟩
theorem below_set {B : Nat} {w W : World} (h : Below B w W) {b : Nat} (hb : B ≤ b) (i : Nat) (u : Value) : Below B w (W.setCell ⟨b, i, none⟩ u) := h.setCell hb u
theorem blk_lt {w : World} {g : Nat} {o : Obj} (h : w.heap[g]? = some o) : g < w.heap.size := by
  rcases Nat.lt_or_ge g w.heap.size with q | q
  · exact q
  · rw [Array.getElem?_eq_none q] at h; cases h
theorem blk_grown {w w1 : World} {g : Nat} {o : Obj} {row : Option Nat} (h : w.heap[g]? = some o) (hg : w.grownBy w1 row) (hne : some g ≠ row) : w1.heap[g]? = some o := by
  have hlt : g < w.heap.size := by
    rcases Nat.lt_or_ge g w.heap.size with q | q
    · exact q
    · rw [Array.getElem?_eq_none q] at h; cases h
  rw [hg.block g hlt hne]; exact h
theorem OwnF.ne {α : Type} {enc : α → List Value} {sz : Nat} {e : TypeId} {base : Nat} {w : World} {v : Value} {xs : List α} (h : OwnF enc sz e base w v xs) {g : Nat} (hg : g < base) : some g ≠ v.ownBlock := by
  intro e1; have := h.base_ g e1.symm; omega
theorem OwnF.lower {α : Type} {enc : α → List Value} {sz : Nat} {e : TypeId} {base base' : Nat} {w : World} {v : Value} {xs : List α} (h : OwnF enc sz e base w v xs) (hb : base' ≤ base) : OwnF enc sz e base' w v xs := by
  obtain ⟨h1, h2⟩ := h
  refine ⟨h1, ?_⟩
  rcases h2 with h2 | ⟨g, cap, cur, rfl, hg, r⟩
  · exact .inl h2
  · exact .inr ⟨g, cap, cur, rfl, Nat.le_trans hb hg, r⟩
/-- a literal of one element, just laid -/
theorem OwnF.lit1 {α : Type} (enc : α → List Value) (sz : Nat) (e : TypeId) (W : World) (base : Nat) (y : α) (hy : (enc y).length = sz) (hb : base ≤ W.heap.size) :
    OwnF enc sz e base (W.alloc (.cells (enc y).toArray e)) (.slice (some ⟨W.heap.size, 0, none⟩) 1 1) [y] := by
  refine ⟨by simp [hy], .inr ⟨W.heap.size, 1, (enc y).toArray, rfl, hb, heap_alloc_new W _, by simp, by simp [maxLen], by simp [hy], ?_⟩⟩
  simp only [List.length_singleton, Nat.one_mul, List.flatMap_cons, List.flatMap_nil, List.append_nil]
  rw [List.take_of_length_le (by omega)]

theorem flat_len {α : Type} {enc : α → List Value} {sz : Nat} (henc : ∀ x, (enc x).length = sz) (xs : List α) : (xs.flatMap enc).length = xs.length * sz := by
  induction xs with
  | nil => simp
  | cons x xs ih => rw [List.flatMap_cons, List.length_append, ih, henc, List.length_cons, Nat.add_mul]; omega
theorem flat_get {α : Type} {enc : α → List Value} {sz : Nat} (henc : ∀ x, (enc x).length = sz) (xs : List α) : ∀ (i : Nat) (x : α) (r : Nat) (u : Value), xs[i]? = some x → (enc x)[r]? = some u → (xs.flatMap enc)[i * sz + r]? = some u := by
  induction xs with
  | nil => intro i x r u h; simp at h
  | cons y xs ih =>
    intro i x r u h hr
    rw [List.flatMap_cons]
    cases i with
    | zero =>
      simp at h; subst h
      have hlt : r < (enc y).length := by
        rcases Nat.lt_or_ge r (enc y).length with q | q
        · exact q
        · rw [List.getElem?_eq_none q] at hr; cases hr
      rw [Nat.zero_mul, Nat.zero_add, List.getElem?_append_left hlt]; exact hr
    | succ i =>
      simp at h
      have e1 : (i + 1) * sz + r = (enc y).length + (i * sz + r) := by rw [henc, Nat.add_mul]; omega
      rw [e1, List.getElem?_append_right (by omega), Nat.add_sub_cancel_left]
      exact ih i x r u h hr
theorem flat_split {α : Type} {enc : α → List Value} {sz : Nat} (henc : ∀ x, (enc x).length = sz) (xs : List α) : ∀ (j : Nat) (u : Value), (xs.flatMap enc)[j]? = some u → ∃ i x r, xs[i]? = some x ∧ (enc x)[r]? = some u ∧ j = i * sz + r := by
  induction xs with
  | nil => intro j u h; simp at h
  | cons y xs ih =>
    intro j u h
    rw [List.flatMap_cons] at h
    rcases Nat.lt_or_ge j (enc y).length with q | q
    · rw [List.getElem?_append_left q] at h
      exact ⟨0, y, j, rfl, h, by simp⟩
    · rw [List.getElem?_append_right q] at h
      obtain ⟨i, x, r, h1, h2, h3⟩ := ih _ _ h
      refine ⟨i + 1, x, r, by simpa using h1, h2, ?_⟩
      rw [henc] at q h3
      rw [Nat.add_mul]; omega
/-- the cells of a slice that is read, one behind the other -/
theorem Sl.inner {α : Type} {enc : α → List Value} {sz : Nat} (henc : ∀ x, (enc x).length = sz) {w : World} {A : Option Addr} {c : Nat} {xs : List α} (h : Sl (flat sz enc) w A c xs) (hne : xs ≠ []) :
    ∃ b off, A = some ⟨b, off, none⟩ ∧ ∀ j u, (xs.flatMap enc)[j]? = some u → w.cell? ⟨b, off + j, none⟩ = some u := by
  have hl : 0 < xs.length := List.length_pos_iff.2 hne
  obtain ⟨b, off, rfl, _⟩ := Sl.flat_at h hl
  refine ⟨b, off, rfl, fun j u hj => ?_⟩
  obtain ⟨i, x, r, h1, h2, rfl⟩ := flat_split henc xs j u hj
  obtain ⟨b', off', cs, he, rfl, hc⟩ := h.get i x h1
  injection he with he; injection he with h3 h4; subst h3; subst h4
  rw [← Nat.add_assoc]; exact hc r u h2
/-- what is the call's own is read -/
theorem OwnF.sl {α : Type} {enc : α → List Value} {sz : Nat} (henc : ∀ x, (enc x).length = sz) {e : TypeId} {base : Nat} {w : World} {v : Value} {xs : List α} (h : OwnF enc sz e base w v xs) :
    ∃ A c, v = .slice A xs.length c ∧ Sl (flat sz enc) w A c xs := by
  obtain ⟨h1, h2⟩ := h
  rcases h2 with ⟨rfl, h2⟩ | ⟨g, cap, cur, rfl, hg, hh, hn, hm, hs, ht⟩
  · have : xs = [] := List.eq_nil_of_length_eq_zero h2
    subst this
    exact ⟨none, 0, rfl, Sl.nil_ _ _⟩
  · refine ⟨some ⟨g, 0, none⟩, cap, rfl, hn, by simpa [maxLen] using hm, (fun h => by cases h), fun i x hx => ⟨g, 0, enc x, rfl, rfl, fun j u hj => ?_⟩⟩
    have hf := flat_get henc xs i x j u hx hj
    rw [← ht] at hf
    have hf2 : cur[i * sz + j]? = some u := by
      rw [List.getElem?_take] at hf
      split at hf
      · simpa using hf
      · cases hf
    simp only [flat, Nat.zero_add]
    simp [World.cell?, hh, hf2]

/-- v is a slice of the call's own that may be appended to: such as OwnF, or a full one over another variable's memory (an array's) -/
def AccF {α : Type} (enc : α → List Value) (sz : Nat) (e : TypeId) (base : Nat) (w : World) (v : Value) (xs : List α) : Prop :=
  OwnF enc sz e base w v xs ∨ ∃ g, v = .slice (some ⟨g, 0, none⟩) xs.length xs.length ∧ base ≤ g ∧ g < w.heap.size ∧ xs.length ≤ 9223372036854775807 ∧ ∀ j u, (xs.flatMap enc)[j]? = some u → w.cell? ⟨g, j, none⟩ = some u
theorem AccF.base_ {α : Type} {enc : α → List Value} {sz : Nat} {e : TypeId} {base : Nat} {w : World} {v : Value} {xs : List α} (h : AccF enc sz e base w v xs) : ∀ k, v.ownBlock = some k → base ≤ k ∧ k < w.heap.size := by
  rcases h with h | ⟨g, rfl, hg, hlt, _⟩
  · exact World.ownsRow.lt h
  · intro k hk; simp [Value.ownBlock] at hk; omega
theorem AccF.ne {α : Type} {enc : α → List Value} {sz : Nat} {e : TypeId} {base : Nat} {w : World} {v : Value} {xs : List α} (h : AccF enc sz e base w v xs) {g : Nat} (hg : g < base) : some g ≠ v.ownBlock := by
  intro e1; have := h.base_ g e1.symm; omega
theorem AccF.below {α : Type} {enc : α → List Value} {sz : Nat} {e : TypeId} {base : Nat} {w w1 : World} {v : Value} {xs : List α} (h : AccF enc sz e base w v xs) (hb : Below w.heap.size w w1) : AccF enc sz e base w1 v xs := by
  rcases h with h | ⟨g, rfl, hg, hlt, hm, hc⟩
  · exact .inl (h.below hb)
  · exact .inr ⟨g, rfl, hg, Nat.lt_of_lt_of_le hlt hb.size, hm, fun j u hj => (hb.cell (p := ⟨g, j, none⟩) hlt).trans (hc j u hj)⟩
theorem AccF.sl {α : Type} {enc : α → List Value} {sz : Nat} (henc : ∀ x, (enc x).length = sz) {e : TypeId} {base : Nat} {w : World} {v : Value} {xs : List α} (h : AccF enc sz e base w v xs) :
    ∃ A c, v = .slice A xs.length c ∧ Sl (flat sz enc) w A c xs := by
  rcases h with h | ⟨g, rfl, hg, hlt, hm, hc⟩
  · exact h.sl henc
  · exact ⟨_, _, rfl, Nat.le_refl _, hm, (fun h => by cases h), fun i x hx => ⟨g, 0, enc x, rfl, rfl, fun j u hj => by
      simp only [flat, Nat.zero_add]; exact hc _ _ (flat_get henc xs i x j u hx hj)⟩⟩
theorem AccF.lower {α : Type} {enc : α → List Value} {sz : Nat} {e : TypeId} {base base' : Nat} {w : World} {v : Value} {xs : List α} (h : AccF enc sz e base w v xs) (hb : base' ≤ base) : AccF enc sz e base' w v xs := by
  rcases h with h | ⟨g, rfl, hg, r⟩
  · exact .inl (h.lower hb)
  · exact .inr ⟨g, rfl, Nat.le_trans hb hg, r⟩
theorem AccF.drew {α : Type} {enc : α → List Value} {sz : Nat} {e : TypeId} {base : Nat} {w : World} {v : Value} {xs : List α} (h : AccF enc sz e base w v xs) : AccF enc sz e base w.drew v xs := h.below (Below.refl _ _).drew
theorem AccF.one {α : Type} {enc : α → List Value} {sz : Nat} {e : TypeId} {base : Nat} {w : World} {v : Value} {xs : List α} (h : AccF enc sz e base w v xs) (o : Obj) : AccF enc sz e base (w.alloc o) v xs := h.below (Below.one _ _)
theorem OwnF.acc {α : Type} {enc : α → List Value} {sz : Nat} {e : TypeId} {base : Nat} {w : World} {v : Value} {xs : List α} (h : OwnF enc sz e base w v xs) : AccF enc sz e base w v xs := .inl h
theorem addr_add (b o j : Nat) : (⟨b, o, none⟩ : Addr).add j = ⟨b, o + j, none⟩ := by unfold Addr.add; split <;> simp_all
theorem sl_lit1 {α : Type} (enc : α → List Value) (sz : Nat) (W : World) (e : TypeId) (y : α) (hy : (enc y).length = sz) : Sl (flat sz enc) (W.alloc (.cells (enc y).toArray e)) (some ⟨W.heap.size, 0, none⟩) 1 [y] :=
  ⟨by simp, by omega, (fun h => by cases h), fun i x hx => by
    have hi : i = 0 ∧ x = y := by
      cases i with
      | zero => simp at hx; exact ⟨rfl, hx.symm⟩
      | succ i => simp at hx
    obtain ⟨rfl, rfl⟩ := hi
    exact ⟨W.heap.size, 0, enc x, rfl, rfl, fun j u hj => by simpa [World.cell?_alloc_new] using hj⟩⟩

/-- a scope whose label is come to from ahead, and jumped back to: what holds at the label (J), its rest walked once -/
theorem wp_scope_once {P : Program} {a : Act} {w : World} {Q : Exit → Act → World → Prop} {c body : Code} (l : Nat) (J : Act → World → Prop) (μ : Act → World → Nat) (hf : findLabel c l = some (.seq .skip body))
    (pass : ∀ a w, J a w → body.wp P (Exit.jump l (fun a' w' => J a' w' ∧ μ a' w' < μ a w) Q) a w)
    (first : (∀ a w, J a w → body.wp P (Exit.jump l J Q) a w) → c.wp P (Exit.jump l J Q) a w) : (Code.scope c).wp P Q a w := by
  refine wp_scope_jumps l J μ hf (first fun a w h => wp_mono (pass a w h) fun e a1 w1 hq => ?_) (fun a w h => wp_seq (wp_skip (pass a w h)))
  cases e with
  | goto l' => exact ⟨hq.1, hq.2.1⟩
  | normal => exact hq
  | exit id => exact hq
  | ret => exact hq
  | panic ch => exact hq
  | outgrown => exact hq

section
variable {P : Program} {ops : Array Go.Oper} {rest : List Go.Oper} {o : Go.Oper} {a : Act} {Q : Exit → Act → World → Prop} {K : Act → World → Prop} {α : Type}

/-- the run of append(v, y), y laid in a block of its own just before -/
theorem run_append1 (enc : α → List Value) (sz : Nat) {W : World} (base : Nat) (t ty e : TypeId) (z : Value) (bytes : Nat)
    (ht : P.underlying t = some (.slice e)) (hinfo : (P.info? e).map (fun i => (i.zero, i.size, i.bytes)) = some (some z, sz, bytes)) (hz : z.cells.size = sz) (hs0 : 0 < sz) (hb0 : 0 < bytes)
    (v : Value) (xs : List α) (y : α) (hy : (enc y).length = sz) (h1 : ∀ u ∈ enc y, u.oneCell' = true)
    (HO : OwnF enc sz e base W v xs) (hbase : base ≤ W.heap.size) (hl : (xs.length + 1) * bytes ≤ 140737488355328) :
    ∃ v1 w1, (Builtin.append_ #[t, t] ty #[v, .slice (some ⟨W.heap.size, 0, none⟩) 1 1]).run P (W.alloc (.cells (enc y).toArray e)) = .ok v1 w1 ∧ OwnF enc sz e base w1 v1 (xs ++ [y]) ∧ W.grownBy w1 v.ownBlock ∧ Moved W v v1 := by
  obtain ⟨i0, hi, hzz⟩ := Option.map_eq_some_iff.1 hinfo
  simp only [Prod.mk.injEq] at hzz
  obtain ⟨hz0, hz1, hz2⟩ := hzz
  have hlen : xs.length + 1 ≤ 140737488355328 := Nat.le_trans (Nat.le_mul_of_pos_right _ hb0) hl
  obtain ⟨v1, w1, hr, hown, hg, _, hat⟩ := run_append_own_at (P := P) (W.alloc (.cells (enc y).toArray e)) base t ty e i0 z sz bytes ht hi hz0 hz1 hz2 hz hs0 v xs.length (xs.flatMap enc) (World.ownsRow.alloc HO _) ⟨W.heap.size, 0, none⟩ 1 1 (enc y) (by rw [hy]; simp)
    (by simpa using World.news_of_block (cs := (enc y).toArray) (t := e) (fr := (0, 0)) (heap_alloc_new W (.cells (enc y).toArray e))) h1 (by simp only [maxLen]; omega) hl (by simp; omega)
  refine ⟨v1, w1, hr, ?_, World.grownBy.trans (World.grownBy_alloc W _ _) hg, ?_⟩
  · have e1 : (xs ++ [y]).flatMap enc = xs.flatMap enc ++ enc y := by simp
    have e2 : (xs ++ [y]).length = xs.length + 1 := by simp
    unfold OwnF
    rw [e1, e2]; exact hown
  · rcases hat with hat | hat
    · exact .inl hat
    · exact .inr ⟨_, hat, by simp⟩

theorem wp_append1 (enc : α → List Value) (sz : Nat) {W : World} (base : Nat) (s x : Operand) (t e : TypeId) (z : Value) (bytes : Nat)
    (ho : o.op = .call { callee := .builtin .append, args := #[s, x], argTypes := #[t, t] })
    (ht : P.underlying t = some (.slice e)) (hinfo : (P.info? e).map (fun i => (i.zero, i.size, i.bytes)) = some (some z, sz, bytes)) (hz : z.cells.size = sz) (hs0 : 0 < sz) (hb0 : 0 < bytes)
    (v : Value) (xs : List α) (y : α) (hs : a.eval s = v) (hx : a.eval x = .slice (some ⟨W.heap.size, 0, none⟩) 1 1) (hy : (enc y).length = sz) (h1 : ∀ u ∈ enc y, u.oneCell' = true)
    (HO : OwnF enc sz e base W v xs) (hbase : base ≤ W.heap.size) (hl : (xs.length + 1) * bytes ≤ 140737488355328)
    (h : ∀ v1 w1, OwnF enc sz e base w1 v1 (xs ++ [y]) → W.grownBy w1 v.ownBlock → Moved W v v1 → K (a.put o.dst v1) w1) :
    Oper.wp P o a (W.alloc (.cells (enc y).toArray e)) K Q := by
  obtain ⟨v1, w1, hr, h2, h3, h4⟩ := run_append1 (P := P) enc sz base t o.type e z bytes ht hinfo hz hs0 hb0 v xs y hy h1 HO hbase hl
  unfold Oper.wp execOp
  simp only [ho, resolve, invoke, builtin, Sem.run_bind, Sem.run_pure, Result.andThen_ok, List.map_toArray, List.map_cons, List.map_nil, hs, hx, hr]
  exact h v1 w1 h2 h3 h4

theorem append1 (enc : α → List Value) (sz : Nat) {W : World} (base : Nat) (hgd : o.guard = none) (s x : Operand) (t e : TypeId) (z : Value) (bytes : Nat)
    (ho : o.op = .call { callee := .builtin .append, args := #[s, x], argTypes := #[t, t] })
    (ht : P.underlying t = some (.slice e)) (hinfo : (P.info? e).map (fun i => (i.zero, i.size, i.bytes)) = some (some z, sz, bytes)) (hz : z.cells.size = sz) (hs0 : 0 < sz) (hb0 : 0 < bytes)
    (v : Value) (xs : List α) (y : α) (hs : a.eval s = v) (hx : a.eval x = .slice (some ⟨W.heap.size, 0, none⟩) 1 1) (hy : (enc y).length = sz) (h1 : ∀ u ∈ enc y, u.oneCell' = true)
    (HO : OwnF enc sz e base W v xs) (hbase : base ≤ W.heap.size) (hl : (xs.length + 1) * bytes ≤ 140737488355328)
    (h : ∀ v1 w1, OwnF enc sz e base w1 v1 (xs ++ [y]) → W.grownBy w1 v.ownBlock → Moved W v v1 → wpList P ops Q rest (a.put o.dst v1) w1) :
    wpList P ops Q (o :: rest) a (W.alloc (.cells (enc y).toArray e)) :=
  wpList_plain hgd fun _ hK => wp_append1 enc sz base s x t e z bytes ho ht hinfo hz hs0 hb0 v xs y hs hx hy h1 HO hbase hl fun v1 w1 h2 h3 h4 => hK _ _ (h v1 w1 h2 h3 h4)

/-- append(v, ys...), ys read, and not empty: into what is the call's own, or out of a full one -/
theorem run_appendS (enc : α → List Value) (sz : Nat) (henc : ∀ x, (enc x).length = sz) (hone : ∀ x, ∀ u ∈ enc x, u.oneCell' = true) {W : World} (base : Nat) (t ty e : TypeId) (z : Value) (bytes : Nat)
    (ht : P.underlying t = some (.slice e)) (hinfo : (P.info? e).map (fun i => (i.zero, i.size, i.bytes)) = some (some z, sz, bytes)) (hz : z.cells.size = sz) (hs0 : 0 < sz) (hb0 : 0 < bytes)
    (v : Value) (xs ys : List α) (A : Option Addr) (c : Nat) (hne : ys ≠ []) (HS : Sl (flat sz enc) W A c ys)
    (HO : AccF enc sz e base W v xs) (hbase : base ≤ W.heap.size) (hl : (xs.length + ys.length) * bytes ≤ 140737488355328) :
    ∃ v1 w1, (Builtin.append_ #[t, t] ty #[v, .slice A ys.length c]).run P W = .ok v1 w1 ∧ OwnF enc sz e base w1 v1 (xs ++ ys) ∧ W.grownBy w1 v.ownBlock ∧ Moved W v v1 := by
  obtain ⟨i0, hi, hzz⟩ := Option.map_eq_some_iff.1 hinfo
  simp only [Prod.mk.injEq] at hzz
  obtain ⟨hz0, hz1, hz2⟩ := hzz
  have hlen : xs.length + ys.length ≤ 140737488355328 := Nat.le_trans (Nat.le_mul_of_pos_right _ hb0) hl
  have hl0 : 0 < ys.length := List.length_pos_iff.2 hne
  obtain ⟨b, off, rfl, hin⟩ := HS.inner henc hne
  have hnews : ∀ j u, (ys.flatMap enc)[j]? = some u → W.cell? ((⟨b, off, none⟩ : Addr).add j) = some u := fun j u hj => by rw [addr_add]; exact hin j u hj
  have h1 : ∀ u ∈ ys.flatMap enc, u.oneCell' = true := fun u hu => by
    obtain ⟨x, _, hx⟩ := List.mem_flatMap.1 hu
    exact hone x u hx
  have e1 : (xs ++ ys).flatMap enc = xs.flatMap enc ++ ys.flatMap enc := by simp
  have e2 : (xs ++ ys).length = xs.length + ys.length := by simp
  rcases HO with HO | ⟨g, rfl, hg, hlt, hm, hc⟩
  · obtain ⟨v1, w1, hr, hown, hg, _, hat⟩ := run_append_own_at (P := P) W base t ty e i0 z sz bytes ht hi hz0 hz1 hz2 hz hs0 v xs.length (xs.flatMap enc) HO ⟨b, off, none⟩ ys.length c (ys.flatMap enc) (flat_len henc ys) hnews h1 (by simp only [maxLen]; omega) hl hbase
    refine ⟨v1, w1, hr, ?_, hg, ?_⟩
    · unfold OwnF; rw [e1, e2]; exact hown
    · rcases hat with hat | hat
      · exact .inl hat
      · exact .inr ⟨_, hat, Nat.le_refl _⟩
  · subst hz1; subst hz2
    have hr := run_append_grow (P := P) W t ty e i0 z ht hi hz0 ⟨g, 0, none⟩ xs.length xs.length (xs.flatMap enc) (flat_len henc xs) (fun j u hj => by rw [addr_add, Nat.zero_add]; exact hc j u hj) ⟨b, off, none⟩ ys.length c (ys.flatMap enc) (flat_len henc ys) hnews
      (by omega) (by omega) (growslice_fits (by omega) hl)
    have hge := grownCap_ge W (xs.length + ys.length) xs.length e
    have hcm : grownCap W (xs.length + ys.length) xs.length e ≤ maxLen := grownCap_le_maxLen W (xs.length + ys.length) xs.length e (by simp only [maxLen]; omega)
    refine ⟨_, _, hr, ?_, ⟨rfl, rfl, rfl, by simp, fun k hk _ => Below.heap_alloc W.drew _ k hk⟩, .inr ⟨W.heap.size, rfl, Nat.le_refl _⟩⟩
    unfold OwnF
    rw [e1, e2]
    refine ⟨by rw [List.length_append, flat_len henc, flat_len henc, Nat.add_mul], .inr ⟨W.heap.size, _, _, rfl, hbase, heap_alloc_new W.drew _, hge, hcm, ?_, ?_⟩⟩
    · simp only [Array.size_append, List.size_toArray, size_zeroCells, hz, flat_len henc, ← Nat.add_mul]
      congr 1
      omega
    · simp only [Array.toList_append, List.append_assoc]
      rw [← List.append_assoc]
      have : (xs.length + ys.length) * i0.size = (xs.flatMap enc ++ ys.flatMap enc).length := by rw [List.length_append, flat_len henc, flat_len henc, Nat.add_mul]
      rw [this]
      exact List.take_left

theorem wp_appendS (enc : α → List Value) (sz : Nat) (henc : ∀ x, (enc x).length = sz) (hone : ∀ x, ∀ u ∈ enc x, u.oneCell' = true) {W : World} (base : Nat) (s x : Operand) (t e : TypeId) (z : Value) (bytes : Nat)
    (ho : o.op = .call { callee := .builtin .append, args := #[s, x], argTypes := #[t, t] })
    (ht : P.underlying t = some (.slice e)) (hinfo : (P.info? e).map (fun i => (i.zero, i.size, i.bytes)) = some (some z, sz, bytes)) (hz : z.cells.size = sz) (hs0 : 0 < sz) (hb0 : 0 < bytes)
    (v : Value) (xs ys : List α) (A : Option Addr) (c : Nat) (hs : a.eval s = v) (hx : a.eval x = .slice A ys.length c) (hne : ys ≠ []) (HS : Sl (flat sz enc) W A c ys)
    (HO : AccF enc sz e base W v xs) (hbase : base ≤ W.heap.size) (hl : (xs.length + ys.length) * bytes ≤ 140737488355328)
    (h : ∀ v1 w1, OwnF enc sz e base w1 v1 (xs ++ ys) → W.grownBy w1 v.ownBlock → Moved W v v1 → K (a.put o.dst v1) w1) :
    Oper.wp P o a W K Q := by
  obtain ⟨v1, w1, hr, h2, h3, h4⟩ := run_appendS (P := P) enc sz henc hone base t o.type e z bytes ht hinfo hz hs0 hb0 v xs ys A c hne HS HO hbase hl
  unfold Oper.wp execOp
  simp only [ho, resolve, invoke, builtin, Sem.run_bind, Sem.run_pure, Result.andThen_ok, List.map_toArray, List.map_cons, List.map_nil, hs, hx, hr]
  exact h v1 w1 h2 h3 h4
theorem appendS (enc : α → List Value) (sz : Nat) (henc : ∀ x, (enc x).length = sz) (hone : ∀ x, ∀ u ∈ enc x, u.oneCell' = true) {W : World} (base : Nat) (hgd : o.guard = none) (s x : Operand) (t e : TypeId) (z : Value) (bytes : Nat)
    (ho : o.op = .call { callee := .builtin .append, args := #[s, x], argTypes := #[t, t] })
    (ht : P.underlying t = some (.slice e)) (hinfo : (P.info? e).map (fun i => (i.zero, i.size, i.bytes)) = some (some z, sz, bytes)) (hz : z.cells.size = sz) (hs0 : 0 < sz) (hb0 : 0 < bytes)
    (v : Value) (xs ys : List α) (A : Option Addr) (c : Nat) (hs : a.eval s = v) (hx : a.eval x = .slice A ys.length c) (hne : ys ≠ []) (HS : Sl (flat sz enc) W A c ys)
    (HO : AccF enc sz e base W v xs) (hbase : base ≤ W.heap.size) (hl : (xs.length + ys.length) * bytes ≤ 140737488355328)
    (h : ∀ v1 w1, OwnF enc sz e base w1 v1 (xs ++ ys) → W.grownBy w1 v.ownBlock → Moved W v v1 → wpList P ops Q rest (a.put o.dst v1) w1) :
    wpList P ops Q (o :: rest) a W :=
  wpList_plain hgd fun _ hK => wp_appendS enc sz henc hone base s x t e z bytes ho ht hinfo hz hs0 hb0 v xs ys A c hs hx hne HS HO hbase hl fun v1 w1 h2 h3 h4 => hK _ _ (h v1 w1 h2 h3 h4)
/-- the same, as a step of a region that draws -/
theorem stepS (enc : α → List Value) (sz : Nat) (henc : ∀ x, (enc x).length = sz) (hone : ∀ x, ∀ u ∈ enc x, u.oneCell' = true) {W : World} {E : Prop} (base : Nat) (hgd : o.guard = none) (s x : Operand) (t e : TypeId) (z : Value) (bytes : Nat)
    (ho : o.op = .call { callee := .builtin .append, args := #[s, x], argTypes := #[t, t] })
    (ht : P.underlying t = some (.slice e)) (hinfo : (P.info? e).map (fun i => (i.zero, i.size, i.bytes)) = some (some z, sz, bytes)) (hz : z.cells.size = sz) (hs0 : 0 < sz) (hb0 : 0 < bytes)
    (v : Value) (xs ys : List α) (A : Option Addr) (c : Nat) (hs : a.eval s = v) (hx : a.eval x = .slice A ys.length c) (hne : ys ≠ []) (HS : Sl (flat sz enc) W A c ys)
    (HO : AccF enc sz e base W v xs) (hbase : base ≤ W.heap.size) (hl : (xs.length + ys.length) * bytes ≤ 140737488355328)
    (h : ∀ v1 w1, OwnF enc sz e base w1 v1 (xs ++ ys) → W.grownBy w1 v.ownBlock → Moved W v v1 → K (a.put o.dst v1) w1) :
    if Region.wanted o (yielded ops a.tmps) = true then Oper.wp P o a W K Q else E := by
  rw [if_pos (by simp [Region.wanted, hgd])]
  exact wp_appendS enc sz henc hone base s x t e z bytes ho ht hinfo hz hs0 hb0 v xs ys A c hs hx hne HS HO hbase hl h
end

def encB (n : Int) : List Value := [.int .u8 n]
theorem encB_one (n : Int) : ∀ u ∈ encB n, u.oneCell' = true := by intro u hu; simp [encB] at hu; subst hu; rfl
end Go.Proofs.Ytnkcgakmajdmcaa
