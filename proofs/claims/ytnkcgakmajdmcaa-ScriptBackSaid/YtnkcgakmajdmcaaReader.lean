/-
  The walk through op's reader.
-/
import Derived.Test.YtnkcgakmajdmcaaOwn
import Derived.Test.YtnkcgakmajdmcaaProg
import Derived.WalkLawsBesides
import Derived.WalkSpells
namespace Go.Proofs.Ytnkcgakmajdmcaa
open Go.RowKit

theorem infoByte' : (Try.prog.info? 5).map (fun i => (i.zero, i.size, i.bytes)) = some (some (.int .u8 0), 1, 1) := by kernel_rfl

def val (l : List Int) : Int := l.foldl (fun n b => n * 256 + b) 0
theorem val_snoc (l : List Int) (b : Int) : val (l ++ [b]) = val l * 256 + b := by simp [val]
theorem val_bd (l : List Int) (h : ∀ b ∈ l, isB b) : 0 ≤ val l ∧ val l < 256 ^ l.length := by
  have key : ∀ (m : List Int) (n : Int) (q : Int), 0 ≤ n → n < q → (∀ b ∈ m, isB b) → 0 ≤ m.foldl (fun n b => n * 256 + b) n ∧ m.foldl (fun n b => n * 256 + b) n < q * 256 ^ m.length := by
    intro m
    induction m with
    | nil => intro n q h0 h1 _; simp; exact ⟨h0, h1⟩
    | cons b m ih =>
      intro n q h0 h1 hb
      obtain ⟨h3, h4⟩ := hb b (by simp)
      have := ih (n * 256 + b) (q * 256) (by omega) (by omega) fun x hx => hb x (by simp [hx])
      rw [List.length_cons, Int.pow_succ, Int.mul_comm (256 ^ m.length) 256, ← Int.mul_assoc]
      exact this
  have := key l 0 1 (by omega) (by omega) h
  rw [Int.one_mul] at this; exact this

theorem i64_and7 (n : Int) (h0 : 0 ≤ n) (h1 : n < 256) : bits .and .i64 n 7 = n % 8 := by
  have key : ∀ m : Fin 256, bits .and .i64 ((m.val : Nat) : Int) 7 = ((m.val : Nat) : Int) % 8 := by decide +kernel
  obtain ⟨m, rfl⟩ := Int.eq_ofNat_of_zero_le h0
  exact key ⟨m, by omega⟩

def rdV (bs : List Int) (size : Nat) : Int := if bs.length < size then 0 else val (bs.take size)
def rdS (bad : Bool) (bs : List Int) (size : Nat) : Bool := bad || decide (bs.length < size)
def RdPost (R : Nat) (w0 : World) (bs : List Int) (bad : Bool) (size : Nat) (w : World) (e : Ending) (w' : World) : Prop :=
  ∃ A c, e = .returned (.int .i64 (rdV bs size)) ∧ Sl kByte w0 A c (bs.drop size) ∧
    w'.heap[R]? = some (.cells #[.slice A (bs.drop size).length c, .bool (rdS bad bs size)] 142 (0, 0)) ∧ w.grownBy w' (some R)
theorem rd_more {R : Nat} {w0 : World} {bs pre rs : List Int} {bad : Bool} {size : Nat} {w w' : World} {A : Option Addr} {c : Nat} (hb : bs = pre ++ rs) (hp : pre.length = size) (hs : Sl kByte w0 A c rs)
    (hk : w'.heap[R]? = some (.cells #[.slice A rs.length c, .bool bad] 142 (0, 0))) (hg : w.grownBy w' (some R)) : RdPost R w0 bs bad size w (.returned (.int .i64 (val pre))) w' := by
  subst hb; subst hp
  have h1 : ¬ (pre ++ rs).length < pre.length := by simp
  refine ⟨A, c, ?_, by simpa using hs, ?_, hg⟩
  · rw [rdV, if_neg h1]; simp
  · rw [List.drop_left, rdS]; simp only [h1, decide_false, Bool.or_false]; exact hk
theorem rd_less {R : Nat} {w0 : World} {bs pre : List Int} {bad : Bool} {size : Nat} {w w' : World} {A : Option Addr} {c : Nat} (hb : bs = pre ++ []) (hp : pre.length < size) (hs : Sl kByte w0 A c ([] : List Int))
    (hk : w'.heap[R]? = some (.cells #[.slice A 0 c, .bool true] 142 (0, 0))) (hg : w.grownBy w' (some R)) : RdPost R w0 bs bad size w (.returned (.int .i64 0)) w' := by
  rw [List.append_nil] at hb; subst hb
  have h2 : bs.drop size = [] := List.drop_eq_nil_of_le (by omega)
  refine ⟨A, c, ?_, by rw [h2]; exact hs, ?_, hg⟩
  · rw [rdV, if_pos hp]
  · rw [h2]; simpa [hp, rdS] using hk

set_option maxRecDepth 1000000 in
set_option maxHeartbeats 1000000 in
theorem reader_any (R : Nat) (w0 : World) (bs : List Int) (A : Option Addr) (c : Nat) (bad : Bool) (size : Nat) (w : World) (hsz : size ≤ 4) (hby : ∀ b ∈ bs, isB b) (hs : Sl kByte w0 A c bs) (hb0 : Below w0.heap.size w0 w) (hR : w0.heap.size ≤ R)
    (hk : w.heap[R]? = some (.cells #[.slice A bs.length c, .bool bad] 142 (0, 0))) :
    Calls Try.prog 88 #[.pointer (some ⟨R, 0, none⟩), .int .i64 size] w (RdPost R w0 bs bad size w) := by
  obtain ⟨i0, hi0, hz0, hz1, hz2⟩ := info_parts infoByte'
  let J : Act → World → Prop := fun a' w' => ∃ (pre rs : List Int) (sz : Nat) (A' : Option Addr) (c' : Nat) (nv : Int) (u6 u7 u8 u9 u10 u11 u12 u13 u14 u15 u16 u17 u18 u19 u20 u21 u22 u23 u24 u25 u26 u27 u28 u29 u30 u31 u32 u33 u34 u35 u36 u37 : Value), a' = { tmps := #[.pointer (some ⟨R, 0, none⟩), .int .i64 sz, undef, undef, .int .i64 0, .int .i64 nv, u6, u7, u8, u9, u10, u11, u12, u13, u14, u15, u16, u17, u18, u19, u20, u21, u22, u23, u24, u25, u26, u27, u28, u29, u30, u31, u32, u33, u34, u35, u36, u37], defers := [] } ∧
    Hid (val pre = nv) ∧ Hid (bs = pre ++ rs) ∧ Hid (pre.length + sz = size) ∧ Hid (w'.heap[R]? = some (.cells #[.slice A' rs.length c', .bool bad] 142 (0, 0))) ∧ Sl kByte w0 A' c' rs ∧ w.grownBy w' (some R)
  go_enter Try.func88, Try.ntmps88
  go_wp2
  refine wp_scope_once 0 J (fun a' _ => (intOf (a'.tmps.getD 1 undef)).toNat) rfl ?_ ?_
  · rintro a' w' ⟨pre, rs, sz, A', c', nv, u6, u7, u8, u9, u10, u11, u12, u13, u14, u15, u16, u17, u18, u19, u20, u21, u22, u23, u24, u25, u26, u27, u28, u29, u30, u31, u32, u33, u34, u35, u36, u37, rfl, HV, HB, HZ, HK, hs', hg⟩
    have e0 := blk_cell HK.out 0 rfl; have e1 := blk_cell HK.out 1 rfl; have fr := blk_free HK.out
    have hle := hs'.le; have htop := hs'.top
    have hsl : Sl kByte w' A' c' rs := hs'.below (hb0.grown hg hb0.size (fun k hk => by injection hk with hk; omega))
    cases sz with
    | zero =>
      have hz : pre.length = size := by have := HZ.out; omega
      have HZ2 := Lib.hid hz; clear hz
      go_wp2
      simp only [Exit.jump]
      go_ret
      rw [← HV.out]
      exact rd_more HB.out HZ2.out hs' HK.out hg
    | succ sz =>
      have hszb : (((sz + 1 : Nat) : Int) == 0) = false := by rw [beq_eq_false_iff_ne]; omega
      cases rs with
      | nil =>
        have hz : pre.length < size := by have := HZ.out; omega
        have HZ2 := Lib.hid hz; clear hz
        go_wp2
        simp only [Exit.jump]
        go_ret
        exact rd_less HB.out HZ2.out hs' (blk_set HK.out 1 (.bool true)) (grown_trans hg (grown_set _ _ _ _) (.inl rfl))
      | cons b rs =>
        have hb1 : isB b := hby b (by rw [HB.out]; simp)
        obtain ⟨hb2, hb3⟩ := hb1
        have hpre : ∀ x ∈ pre, isB x := fun x hx => hby x (by rw [HB.out]; simp [hx])
        have hv := val_bd pre hpre
        rw [HV.out] at hv
        have hv2 : nv ≤ 16777216 := by
          have hl : pre.length ≤ 3 := by have := HZ.out; omega
          have hl' : pre.length = 0 ∨ pre.length = 1 ∨ pre.length = 2 ∨ pre.length = 3 := by omega
          rcases hl' with h | h | h | h <;> rw [h] at hv <;> omega
        have hv1 := hv.1
        clear hv hpre
        have hsz4 : sz ≤ 4 := by have := HZ.out; omega
        have hlen0 : (((b :: rs).length : Int) == 0) = false := by rw [beq_eq_false_iff_ne]; simp; omega
        obtain ⟨bx, offx, rfl, f0⟩ := hsl.byte_at (k := 0) (by simp)
        simp only [Nat.add_zero, List.getElem_cons_zero] at f0
        simp only [List.length_cons] at hle
        obtain ⟨A2, hcut, hA2⟩ := Sl.tail (P := Try.prog) hs' 30 5 Try.underlying30 hi0 hz1
        go_wp2
        refine wp_goto ?_
        refine ⟨rfl, ⟨pre ++ [b], rs, sz, A2, c' - 1, nv * 256 + b, _, _, _, _, _, _, _, _, _, _, _, _, _, _, _, _, _, _, _, _, _, _, _, _, _, _, _, _, _, _, _, _, rfl, ?_, ?_, ?_, blk_set HK.out 0 _, hA2, grown_trans hg (grown_set _ _ _ _) (.inl rfl)⟩, ?_⟩
        · show _ = _; rw [val_snoc, HV.out]
        · show bs = _; rw [HB.out]; simp
        · show _ = _; have := HZ.out; simp; omega
        · simp [intOf] <;> omega
  · intro hp
    go_wp2_with fail
    refine wp_label ?_
    go_step
    go_step
    exact hp _ _ ⟨[], bs, size, A, c, 0, _, _, _, _, _, _, _, _, _, _, _, _, _, _, _, _, _, _, _, _, _, _, _, _, _, _, _, _, _, _, _, _, rfl, rfl, rfl, by simp [Hid], hk, hs, grown_refl _ _⟩
end Go.Proofs.Ytnkcgakmajdmcaa
