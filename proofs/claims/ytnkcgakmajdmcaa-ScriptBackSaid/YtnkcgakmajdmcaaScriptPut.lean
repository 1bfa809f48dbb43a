/-
  The walk through script.Put: a plan's bytes.
-/
import Derived.Test.YtnkcgakmajdmcaaPut
import Derived.Test.YtnkcgakmajdmcaaScript
import Derived.Deep.RegionLaw
import Derived.Deep.RegionHeldLaw
namespace Go.Proofs.Ytnkcgakmajdmcaa
open Go.RowKit

theorem encB_len (n : Int) : (encB n).length = 1 := rfl

def head8 (c : Cfg) : List Int := [c.cl - 1, c.po, c.vi, c.he - 1, (c.re - 1) / 4, c.la - 1, cb6 c, c.gr]
def oneB (i : Nat) (o : Oper) : List Int := [128 + (i : Int)] ++ putB o
def listB (i : Nat) (l : List Oper) : List Int := l.flatMap (oneB i)
def opsB (ops : List (List Oper)) (k : Nat) : List Int := (List.range k).flatMap fun i => listB i (ops.getD i [])
def planB (p : Plan) : List Int := head8 p.c ++ opsB p.ops p.ops.length ++ p.picks
def goodL (l : List Oper) : Bool := decide (l.length ≤ 64) && l.all okOp
def goodP (p : Plan) : Bool := (rightB p.c && isCfg p.c) && (decide ((p.ops.length : Int) = p.c.cl) && decide (p.picks.length ≤ 4096)) && (p.ops.all goodL && p.picks.all fun x => wi x 0 (p.c.cl + 1))

def PPost (p : Plan) (w : World) (e : Ending) (w' : World) : Prop :=
  (goodP p = true → ∃ v, e = .returned (.tuple #[v, .int .i64 0]) ∧ AccF encB 1 5 w.heap.size w' v (planB p)) ∧
  (goodP p = false → e = .returned (.tuple #[.slice none 0 0, .int .i64 4])) ∧ Below w.heap.size w w'
theorem ppost_no {p : Plan} {w w' : World} (h : goodP p = false) (hb : Below w.heap.size w w') : PPost p w (.returned (.tuple #[.slice none 0 0, .int .i64 4])) w' :=
  ⟨fun e => by (rw [h] at e; cases e), fun _ => rfl, hb⟩
theorem ppost_yes {p : Plan} {w w' : World} {v : Value} (h : goodP p = true) (ho : AccF encB 1 5 w.heap.size w' v (planB p)) (hb : Below w.heap.size w w') : PPost p w (.returned (.tuple #[v, .int .i64 0])) w' :=
  ⟨fun _ => ⟨v, rfl, ho⟩, fun e => by (rw [h] at e; cases e), hb⟩


set_option maxRecDepth 100000 in
set_option maxHeartbeats 1000000 in
theorem sput_no1 (p : Plan) (A B : Option Addr) (m n : Nat) (w : World) (ho : Sl (kSl kOper) w A m p.ops) (hp : Sl kInt w B n p.picks) (hr : rightB p.c = false) :
    Calls Try.prog 11 #[
      .agg #[.int .i64 p.c.cl, .int .i64 p.c.po, .int .i64 p.c.vi, .int .i64 p.c.he, .int .i64 p.c.re, .int .i64 p.c.la, .int .i64 p.c.ti, .int .i64 p.c.gr, .int .i64 p.c.ck, .slice A p.ops.length m, .slice B p.picks.length n]] w (PPost p w) := by
  have hg : Hid (goodP p = false) := by show _ = _; simp [goodP, hr]
  have HR := Lib.hid hr; clear hr
  go_enter Try.func11, Try.ntmps11
  go_wp2_with (go_at_call 53; refine (bytes_no p.c _ HR.out).mono ?_; rintro e w1 ⟨rfl, hb⟩; obtain ⟨hc, hf, hz⟩ := bcell hb; (try simp only [World.size_drew, World.cell?_drew, World.frozen?_drew] at hc hf hz))
  go_ret2
  exact ppost_no hg.out ((Below.after1 hb).alloc (by simp at hz; omega) _)

set_option maxRecDepth 100000 in
set_option maxHeartbeats 1000000 in
theorem sput_no2 (p : Plan) (A B : Option Addr) (m n : Nat) (w : World) (ho : Sl (kSl kOper) w A m p.ops) (hp : Sl kInt w B n p.picks) (hr : rightB p.c = true)
    (h : isCfg p.c = false ∨ ¬ (p.ops.length : Int) = p.c.cl ∨ ¬ p.picks.length ≤ 4096) :
    Calls Try.prog 11 #[
      .agg #[.int .i64 p.c.cl, .int .i64 p.c.po, .int .i64 p.c.vi, .int .i64 p.c.he, .int .i64 p.c.re, .int .i64 p.c.la, .int .i64 p.c.ti, .int .i64 p.c.gr, .int .i64 p.c.ck, .slice A p.ops.length m, .slice B p.picks.length n]] w (PPost p w) := by
  have h1 := ho.le; have h2 := ho.top; have h3 := hp.le; have h4 := hp.top
  have hg : Hid (goodP p = false) := by
    show _ = _
    rcases h with h | h | h
    · simp [goodP, h]
    · simp [goodP, h]
    · simp [goodP, h]
  have HR := Lib.hid hr; clear hr
  by_cases hc : isCfg p.c = true
  · by_cases hl : (p.ops.length : Int) = p.c.cl
    · have hk : ¬ p.picks.length ≤ 4096 := by
        rcases h with h | h | h
        · rw [hc] at h; cases h
        · exact absurd hl h
        · exact h
      have hlb : ((p.ops.length : Int) != p.c.cl) = false := by simp [hl]
      clear hl h
      go_enter Try.func11, Try.ntmps11
      go_wp2_with (go_at_call 53; refine (bytes_yes p.c _ HR.out).mono ?_; rintro e w1 ⟨rfl, hb⟩; have hzz := hb.size; (simp at hzz); have hlt : w.heap.size < w1.heap.size := (by omega); obtain ⟨hc, hf, hz⟩ := bcell hb; (try simp only [World.size_drew, World.cell?_drew, World.frozen?_drew] at hc hf hz))
      go_ret2
      exact ppost_no hg.out ((Below.after1 hb).alloc (by omega) _)
    · have hlb : ((p.ops.length : Int) != p.c.cl) = true := by rw [bne_iff_ne]; exact hl
      clear hl h
      go_enter Try.func11, Try.ntmps11
      go_wp2_with (go_at_call 53; refine (bytes_yes p.c _ HR.out).mono ?_; rintro e w1 ⟨rfl, hb⟩; have hzz := hb.size; (simp at hzz); have hlt : w.heap.size < w1.heap.size := (by omega); obtain ⟨hc, hf, hz⟩ := bcell hb; (try simp only [World.size_drew, World.cell?_drew, World.frozen?_drew] at hc hf hz))
      go_ret2
      exact ppost_no hg.out ((Below.after1 hb).alloc (by omega) _)
  · have hcf : isCfg p.c = false := by simpa using hc
    clear hc h
    go_enter Try.func11, Try.ntmps11
    go_wp2_with (go_at_call 53; refine (bytes_yes p.c _ HR.out).mono ?_; rintro e w1 ⟨rfl, hb⟩; obtain ⟨hc, hf, hz⟩ := bcell hb; (try simp only [World.size_drew, World.cell?_drew, World.frozen?_drew] at hc hf hz))
    go_ret2
    exact ppost_no hg.out ((Below.after1 hb).alloc (by simp at hz; omega) _)
end Go.Proofs.Ytnkcgakmajdmcaa
