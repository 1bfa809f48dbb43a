/-
  What script.Take makes of bytes, in plain words; and slices of the call's own, many at once.
-/
import Derived.Test.YtnkcgakmajdmcaaOf
import Derived.Test.YtnkcgakmajdmcaaScriptPut2
namespace Go.Proofs.Ytnkcgakmajdmcaa
open Go.RowKit

def encI (n : Int) : List Value := [.int .i64 n]
theorem encI_len (n : Int) : (encI n).length = 1 := rfl
theorem encI_one (n : Int) : ∀ u ∈ encI n, u.oneCell' = true := by intro u hu; simp [encI] at hu; subst hu; rfl
theorem encOper_len (o : Oper) : (encOper o).length = 7 := rfl
theorem encOper_one (o : Oper) : ∀ u ∈ encOper o, u.oneCell' = true := by intro u hu; simp [encOper] at hu; rcases hu with h | h | h | h | h | h | h <;> subst h <;> rfl
theorem infoInt : (Try.prog.info? 3).map (fun i => (i.zero, i.size, i.bytes)) = some (some (.int .i64 0), 1, 8) := by kernel_rfl
theorem infoOper : (Try.prog.info? 50).map (fun i => (i.zero, i.size, i.bytes)) = some (some (.agg #[.int .i64 0, .int .i64 0, .int .i64 0, .int .i64 0, .int .i64 0, .int .i64 0, .int .i64 0]), 7, 56) := by kernel_rfl

/-- two slices of the call's own lie apart -/
def apart (x y : Value) : Prop := ∀ k, x.ownBlock = some k → y.ownBlock ≠ some k
theorem apart.symm {x y : Value} (h : apart x y) : apart y x := fun k hk e => h k e hk
theorem apart.ne {x y : Value} (h : apart x y) : y.ownBlock = none ∨ y.ownBlock ≠ x.ownBlock := by
  cases hy : y.ownBlock with
  | none => exact .inl rfl
  | some k => exact .inr fun e => h k e.symm hy
theorem apart.moved {W : World} {v v1 x : Value} (h : apart v x) (hm : Moved W v v1) (hx : ∀ k, x.ownBlock = some k → k < W.heap.size) : apart v1 x := by
  intro k hk hx1
  rcases hm with hm | ⟨b, hb, hle⟩
  · exact h k (hm ▸ hk) hx1
  · rw [hb] at hk; injection hk with hk
    have := hx k hx1; omega

structure Lot (base : Nat) (w : World) (v : Value) (picks : List Int) (vs : List Value) (ops : List (List Oper)) : Prop where
  len : vs.length = ops.length
  pk : OwnF encI 1 3 base w v picks
  op : ∀ (i : Nat) (x : Value) (o : List Oper), vs[i]? = some x → ops[i]? = some o → OwnF encOper 7 50 base w x o
  pd : ∀ (i : Nat) (x : Value), vs[i]? = some x → apart v x
  od : ∀ (i j : Nat) (x y : Value), i ≠ j → vs[i]? = some x → vs[j]? = some y → apart x y

theorem Lot.has {base : Nat} {w : World} {v : Value} {picks : List Int} {vs : List Value} {ops : List (List Oper)} (h : Lot base w v picks vs ops) {i : Nat} {x : Value} (hx : vs[i]? = some x) : ∃ o, ops[i]? = some o ∧ OwnF encOper 7 50 base w x o := by
  have hi : i < vs.length := by
    rcases Nat.lt_or_ge i vs.length with q | q
    · exact q
    · rw [List.getElem?_eq_none q] at hx; cases hx
  have h2 : ops[i]? = some (ops[i]'(by rw [← h.len]; exact hi)) := List.getElem?_eq_getElem _
  exact ⟨_, h2, h.op i x _ hx h2⟩
theorem Lot.xlt {base : Nat} {w : World} {v : Value} {picks : List Int} {vs : List Value} {ops : List (List Oper)} (h : Lot base w v picks vs ops) {i : Nat} {x : Value} (hx : vs[i]? = some x) : ∀ k, x.ownBlock = some k → k < w.heap.size := by
  obtain ⟨o, _, ho⟩ := h.has hx
  exact fun k hk => (own_lt ho k hk).2
theorem Lot.below {base : Nat} {w w1 : World} {v : Value} {picks : List Int} {vs : List Value} {ops : List (List Oper)} (h : Lot base w v picks vs ops) (hb : Below w.heap.size w w1) : Lot base w1 v picks vs ops :=
  ⟨h.len, h.pk.below hb, fun i x o hx ho => (h.op i x o hx ho).below hb, h.pd, h.od⟩
theorem Lot.set {base : Nat} {w : World} {v : Value} {picks : List Int} {vs : List Value} {ops : List (List Oper)} (h : Lot base w v picks vs ops) (R i : Nat) (u : Value) (hR : R < base) : Lot base (w.setCell ⟨R, i, none⟩ u) v picks vs ops :=
  ⟨h.len, h.pk.other (grown_set _ _ _ _) (.inr fun e => h.pk.ne hR e.symm), fun i x o hx ho => (h.op i x o hx ho).other (grown_set _ _ _ _) (.inr fun e => (h.op i x o hx ho).ne hR e.symm), h.pd, h.od⟩
theorem Lot.pick {base : Nat} {w w1 : World} {v v1 : Value} {picks picks1 : List Int} {vs : List Value} {ops : List (List Oper)} (h : Lot base w v picks vs ops) (hg : w.grownBy w1 v.ownBlock) (hm : Moved w v v1) (ho : OwnF encI 1 3 base w1 v1 picks1) : Lot base w1 v1 picks1 vs ops :=
  ⟨h.len, ho, fun i x o hx ho => (h.op i x o hx ho).other hg (h.pd i x hx).ne, fun i x hx => (h.pd i x hx).moved hm (h.xlt hx), h.od⟩
theorem Lot.oper {base : Nat} {w w1 : World} {v x x1 : Value} {picks : List Int} {vs : List Value} {ops : List (List Oper)} {i : Nat} {o1 : List Oper} (h : Lot base w v picks vs ops) (hx : vs[i]? = some x) (hg : w.grownBy w1 x.ownBlock) (hm : Moved w x x1) (ho : OwnF encOper 7 50 base w1 x1 o1) : Lot base w1 v picks (vs.set i x1) (ops.set i o1) := by
  have key : ∀ j y, (vs.set i x1)[j]? = some y → (j = i ∧ y = x1) ∨ (j ≠ i ∧ vs[j]? = some y) := by
    intro j y hy
    rw [List.getElem?_set] at hy
    by_cases e : i = j
    · subst e
      rw [if_pos rfl] at hy
      split at hy
      · injection hy with hy; exact .inl ⟨rfl, hy.symm⟩
      · cases hy
    · rw [if_neg e] at hy; exact .inr ⟨fun e' => e e'.symm, hy⟩
  have vlt : ∀ k, v.ownBlock = some k → k < w.heap.size := fun k hk => (own_lt h.pk k hk).2
  refine ⟨by simp [h.len], h.pk.other hg (h.pd i x hx).symm.ne, fun j y o hy hoj => ?_, fun j y hy => ?_, fun j k y z hjk hy hz => ?_⟩
  · rcases key j y hy with ⟨rfl, rfl⟩ | ⟨hne, hy⟩
    · rw [List.getElem?_set, if_pos rfl] at hoj
      split at hoj
      · injection hoj with hoj; subst hoj; exact ho
      · cases hoj
    · rw [List.getElem?_set, if_neg (fun e => hne e.symm)] at hoj
      exact (h.op j y o hy hoj).other hg (h.od i j x y (fun e => hne e.symm) hx hy).ne
  · rcases key j y hy with ⟨rfl, rfl⟩ | ⟨hne, hy⟩
    · exact ((h.pd j x hx).symm.moved hm vlt).symm
    · exact h.pd j y hy
  · rcases key j y hy with ⟨rfl, rfl⟩ | ⟨hne, hy2⟩
    · rcases key k z hz with ⟨rfl, rfl⟩ | ⟨hne', hz2⟩
      · exact absurd rfl hjk
      · exact (h.od j k x z hjk hx hz2).moved hm (h.xlt hz2)
    · rcases key k z hz with ⟨rfl, rfl⟩ | ⟨hne', hz2⟩
      · exact ((h.od k j x y (fun e => hjk e.symm) hx hy2).moved hm (h.xlt hy2)).symm
      · exact h.od j k y z hjk hy2 hz2

theorem OwnF.sl' {α : Type} {enc : α → List Value} {sz : Nat} (henc : ∀ x, (enc x).length = sz) {e : TypeId} {base : Nat} {w : World} {A : Option Addr} {n c : Nat} {xs : List α} (h : OwnF enc sz e base w (.slice A n c) xs) : Sl (flat sz enc) w A c xs := by
  obtain ⟨A2, c2, he, hs⟩ := h.acc.sl henc
  injection he with h1 h2 h3
  subst h1; subst h3; exact hs
theorem Lot.sl {base G n : Nat} {w : World} {v : Value} {picks : List Int} {vs : List Value} {ops : List (List Oper)} {t : TypeId} (h : Lot base w v picks vs ops) (hg : w.heap[G]? = some (.cells vs.toArray t (0, 0))) (hn : ops.length = n) (hm : n ≤ 9223372036854775807) :
    Sl (kSl kOper) w (some ⟨G, 0, none⟩) n ops := by
  refine ⟨by omega, hm, (fun e => by cases e), fun i o ho => ?_⟩
  have hi : i < ops.length := by
    rcases Nat.lt_or_ge i ops.length with q | q
    · exact q
    · rw [List.getElem?_eq_none q] at ho; cases ho
  have hx : vs[i]? = some (vs[i]'(by rw [h.len]; exact hi)) := List.getElem?_eq_getElem _
  obtain ⟨A, c, hv, hs⟩ := (h.op i _ o hx ho).acc.sl encOper_len
  refine ⟨G, 0, [.slice A o.length c], rfl, ⟨A, c, rfl, hs⟩, fun j u hj => ?_⟩
  cases j with
  | zero =>
    simp at hj; subst hj
    simp only [kSl, Nat.mul_one, Nat.zero_add, Nat.add_zero]
    exact blk_cell hg i (by rw [hv] at hx; simpa using hx)
  | succ j => simp at hj

/-- op.Of, in plain words -/
def zeroO : Oper := ⟨0, ⟨0, 0, 0, 0, 0⟩, 0⟩
def ofRes (bs : List Int) : Oper := if ofOk bs then ofOp bs else zeroO
def ofLen (bs : List Int) : Nat := if ofOk bs then ofTotal bs else 0
theorem ofLen_le (bs : List Int) : ofLen bs ≤ bs.length := by
  unfold ofLen; split
  · rename_i h; simp [ofOk] at h; exact h.1
  · omega
def OfPost2 (bs : List Int) (w : World) (e : Ending) (w' : World) : Prop := ∃ q : Int,
  e = .returned (.tuple #[.agg #[.int .i64 (ofRes bs).kind, .int .i64 (ofRes bs).p.a, .int .i64 (ofRes bs).p.b, .int .i64 (ofRes bs).p.c, .int .i64 (ofRes bs).p.d, .int .i64 (ofRes bs).p.k, .int .i64 (ofRes bs).v], .int .i64 (ofLen bs), .int .i64 q]) ∧ Below w.heap.size w w'
theorem of_all (bs : List Int) (A : Option Addr) (c : Nat) (w : World) (hby : ∀ b ∈ bs, isB b) (hs : Sl kByte w A c bs) :
    Calls Try.prog 59 #[.slice A bs.length c] w (OfPost2 bs w) := by
  refine (of_any bs A c w hby hs).mono ?_
  rintro e w' ⟨h1, h2, hb⟩
  by_cases h : ofOk bs = true
  · refine ⟨0, ?_, hb⟩
    rw [h1 h, ofRes, ofLen, if_pos h, if_pos h]
  · have h' : ofOk bs = false := by simpa using h
    refine ⟨60, ?_, hb⟩
    rw [h2 h', ofRes, ofLen, if_neg h, if_neg h]
    rfl

def tPick (cl x : Int) (picks : List Int) : List Int := if picks.length < 4096 then picks ++ [x % (cl + 2)] else picks
def tIdx (cl x : Int) : Nat := ((x - 128) % cl).toNat
def tOps (i : Nat) (o : Oper) (ops : List (List Oper)) : List (List Oper) := if (ops.getD i []).length < 64 then ops.set i (ops.getD i [] ++ [o]) else ops
def runT : Nat → Int → List Int → List (List Oper) → List Int → List (List Oper) × List Int
  | _, _, [], ops, picks => (ops, picks)
  | 0, _, _, ops, picks => (ops, picks)
  | n + 1, cl, x :: r, ops, picks => if x < 128 then runT n cl r ops (tPick cl x picks) else runT n cl (r.drop (ofLen r)) (tOps (tIdx cl x) (ofRes r) ops) picks
def takeC (bs : List Int) : Cfg := cfgOf (bs.getD 0 0) (bs.getD 1 0) (bs.getD 2 0) (bs.getD 3 0) (bs.getD 4 0) (bs.getD 5 0) (bs.getD 6 0) (bs.getD 7 0)
def takeR (c : Cfg) (rest : List Int) : List (List Oper) × List Int := runT rest.length c.cl rest (List.replicate c.cl.toNat []) []
def takeP (bs : List Int) : Plan := ⟨takeC bs, (takeR (takeC bs) (bs.drop 8)).1, (takeR (takeC bs) (bs.drop 8)).2⟩
end Go.Proofs.Ytnkcgakmajdmcaa
