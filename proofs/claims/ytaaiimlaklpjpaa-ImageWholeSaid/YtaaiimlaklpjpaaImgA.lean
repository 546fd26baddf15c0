/- Contracts of the small functions of package image and its kin. No condition. -/
import Derived.Test.YtaaiimlaklpjpaaEngI
import Derived.Test.YtaaiimlaklpjpaaTab
namespace Go.Proofs.Ytaaiimlaklpjpaa
open Go
set_option linter.unusedVariables false
set_option linter.unusedSimpArgs false
set_option maxRecDepth 100000
set_option maxHeartbeats 4000000
attribute [local irreducible] WL R Fn Fv



theorem mul_bd {a b A B : Int} (h1 : 0 ≤ a) (h2 : a ≤ A) (h3 : 0 ≤ b) (h4 : b ≤ B) : 0 ≤ a * b ∧ a * b ≤ A * B :=
  ⟨Int.mul_nonneg h1 h3, Int.mul_le_mul h2 h4 h3 (by omega)⟩

def noneB (w h n : Int) : Bool := decide (w = 0) && decide (h = 0) && decide (n = 0)
def legalB (which value : Int) : Bool :=
  decide (1 ≤ value) && decide (value ≤ (if which = 1 ∨ which = 2 then 3 else if which = 3 then 4 else if which = 4 then 2 else 0))
theorem legalB_no {a b : Int} (h : ¬ (1 ≤ b ∧ b ≤ (if a = 1 ∨ a = 2 then 3 else if a = 3 then 4 else if a = 4 then 2 else 0))) : legalB a b = false := by
  unfold legalB; simp only [Bool.and_eq_false_iff, decide_eq_false_iff_not]; omega
theorem legalB_yes {a b : Int} (h : 1 ≤ b ∧ b ≤ (if a = 1 ∨ a = 2 then 3 else if a = 3 then 4 else if a = 4 then 2 else 0)) : legalB a b = true := by
  unfold legalB; simp only [Bool.and_eq_true, decide_eq_true_eq]; exact h
def sideB (n : Int) : Bool := decide (1 ≤ n) && decide (n ≤ 64)
theorem sideB_yes {n : Int} (h : 1 ≤ n ∧ n ≤ 64) : sideB n = true := by simp [sideB, h]
theorem sideB_bd {n : Int} (h : sideB n = true) : 1 ≤ n ∧ n ≤ 64 := by simpa [sideB] using h
def sizeI (f : Int) : Int := if f = 1 then 4 else if f = 2 ∨ f = 3 ∨ f = 4 ∨ f = 7 then 2 else if f = 5 ∨ f = 6 then 1 else 0
theorem sizeI_bd (f : Int) : 0 ≤ sizeI f ∧ sizeI f ≤ 4 := by unfold sizeI; omega
/-- A level that may not be. -/
def badL (size W H n : Int) : Bool := !noneB W H n && (!sideB W || !sideB H || decide (n ≠ W * H * size))

theorem none_fn (W H : Int) (ao : Option Addr) (n cap : Nat) (M : Mem) :
    Fv Try.prog 30 [.agg #[.int .i64 W, .int .i64 H, .slice ao n cap]] M (.bool (noneB W H n)) := by
  refine Fv.enter (E := [(0, _)]) Try.func30 rfl Try.ntmps30 rfl rfl fun w0 => ?_
  repeat' (first | (refine WL.p rfl rfl rfl rfl rfl ?_) | (refine WL.nil ?_) | (refine R.region ?_) | (refine R.seq ?_) | (refine WL.i64 rfl rfl rfl rfl (by omega) ?_) | (refine WL.lb rfl rfl rfl rfl rfl rfl (by repeat constructor) (by rfl) ?_) | (refine WL.yes rfl rfl rfl rfl ?_) | (refine WL.no rfl rfl rfl rfl rfl rfl rfl ?_) | (refine R.block ?_) | (refine R.blk ?_) | (refine R.skip ?_) | (refine R.exit rfl ?_) | (refine R.condT rfl ?_) | (refine R.condF rfl ?_) | (refine R.ret ?_) | (refine WL.al rfl rfl rfl rfl rfl rfl ?_; intro b) | (refine WL.bx rfl rfl rfl rfl rfl rfl ?_; intro b) | (refine WL.sb rfl rfl rfl rfl rfl rfl rfl rfl rfl (by repeat constructor) (by rfl) ?_) | (refine WL.bd rfl rfl rfl rfl rfl ?_) | (refine WL.bs rfl rfl rfl rfl rfl rfl rfl rfl ?_; intro g) | (refine R.scope ?_) | (refine R.label ?_) | ((refine WL.gdP rfl rfl rfl rfl ?_ ?_) <;> intro hg <;> (try (exfalso; omega))) | ((refine WL.gdN rfl rfl rfl rfl ?_ ?_) <;> intro hg <;> (try (exfalso; omega))) | ((refine WL.gd rfl rfl rfl rfl ?_ ?_) <;> intro hg) | ((refine R.condP rfl ?_ ?_) <;> intro hc <;> (try (exfalso; omega))) | ((refine R.condN rfl ?_ ?_) <;> intro hc <;> (try (exfalso; omega))) | ((refine R.cond rfl ?_ ?_) <;> intro hc))
  all_goals (refine R.retV rfl rfl fun _ => ?_; simp_all [noneB])
theorem rnone_fn (W H : Int) (ao : Option Addr) (n cap : Nat) (M : Mem) :
    Fv Try.prog 58 [.agg #[.int .i64 W, .int .i64 H, .slice ao n cap]] M (.bool (noneB W H n)) := by
  refine Fv.enter (E := [(0, _)]) Try.func58 rfl Try.ntmps58 rfl rfl fun w0 => ?_
  repeat' (first | (refine WL.p rfl rfl rfl rfl rfl ?_) | (refine WL.nil ?_) | (refine R.region ?_) | (refine R.seq ?_) | (refine WL.i64 rfl rfl rfl rfl (by omega) ?_) | (refine WL.lb rfl rfl rfl rfl rfl rfl (by repeat constructor) (by rfl) ?_) | (refine WL.yes rfl rfl rfl rfl ?_) | (refine WL.no rfl rfl rfl rfl rfl rfl rfl ?_) | (refine R.block ?_) | (refine R.blk ?_) | (refine R.skip ?_) | (refine R.exit rfl ?_) | (refine R.condT rfl ?_) | (refine R.condF rfl ?_) | (refine R.ret ?_) | (refine WL.al rfl rfl rfl rfl rfl rfl ?_; intro b) | (refine WL.bx rfl rfl rfl rfl rfl rfl ?_; intro b) | (refine WL.sb rfl rfl rfl rfl rfl rfl rfl rfl rfl (by repeat constructor) (by rfl) ?_) | (refine WL.bd rfl rfl rfl rfl rfl ?_) | (refine WL.bs rfl rfl rfl rfl rfl rfl rfl rfl ?_; intro g) | (refine R.scope ?_) | (refine R.label ?_) | ((refine WL.gdP rfl rfl rfl rfl ?_ ?_) <;> intro hg <;> (try (exfalso; omega))) | ((refine WL.gdN rfl rfl rfl rfl ?_ ?_) <;> intro hg <;> (try (exfalso; omega))) | ((refine WL.gd rfl rfl rfl rfl ?_ ?_) <;> intro hg) | ((refine R.condP rfl ?_ ?_) <;> intro hc <;> (try (exfalso; omega))) | ((refine R.condN rfl ?_ ?_) <;> intro hc <;> (try (exfalso; omega))) | ((refine R.cond rfl ?_ ?_) <;> intro hc))
  all_goals (refine R.retV rfl rfl fun _ => ?_; simp_all [noneB])

theorem legal_fn (a b : Int) (M : Mem) : Fv Try.prog 53 [.int .i64 a, .int .i64 b] M (.bool (legalB a b)) := by
  refine Fv.enter (E := [(0, _), (1, _)]) Try.func53 rfl Try.ntmps53 rfl rfl fun w0 => ?_
  repeat' (first | (refine WL.p rfl rfl rfl rfl rfl ?_) | (refine WL.nil ?_) | (refine R.region ?_) | (refine R.seq ?_) | (refine WL.i64 rfl rfl rfl rfl (by omega) ?_) | (refine WL.lb rfl rfl rfl rfl rfl rfl (by repeat constructor) (by rfl) ?_) | (refine WL.yes rfl rfl rfl rfl ?_) | (refine WL.no rfl rfl rfl rfl rfl rfl rfl ?_) | (refine R.block ?_) | (refine R.blk ?_) | (refine R.skip ?_) | (refine R.exit rfl ?_) | (refine R.condT rfl ?_) | (refine R.condF rfl ?_) | (refine R.ret ?_) | (refine WL.al rfl rfl rfl rfl rfl rfl ?_; intro b) | (refine WL.bx rfl rfl rfl rfl rfl rfl ?_; intro b) | (refine WL.sb rfl rfl rfl rfl rfl rfl rfl rfl rfl (by repeat constructor) (by rfl) ?_) | (refine WL.bd rfl rfl rfl rfl rfl ?_) | (refine WL.bs rfl rfl rfl rfl rfl rfl rfl rfl ?_; intro g) | (refine R.scope ?_) | (refine R.label ?_) | ((refine WL.gdP rfl rfl rfl rfl ?_ ?_) <;> intro hg <;> (try (exfalso; omega))) | ((refine WL.gdN rfl rfl rfl rfl ?_ ?_) <;> intro hg <;> (try (exfalso; omega))) | ((refine WL.gd rfl rfl rfl rfl ?_ ?_) <;> intro hg) | ((refine R.condP rfl ?_ ?_) <;> intro hc <;> (try (exfalso; omega))) | ((refine R.condN rfl ?_ ?_) <;> intro hc <;> (try (exfalso; omega))) | ((refine R.cond rfl ?_ ?_) <;> intro hc))
  all_goals refine R.retV rfl rfl fun _ => ?_
  all_goals (refine congrArg Value.bool ?_; rw [Bool.eq_iff_iff]; first | (simp only [legalB, Bool.and_eq_true, Bool.or_eq_true, Bool.not_eq_true', Bool.not_eq_false', decide_eq_true_eq, decide_eq_false_iff_not, Bool.false_eq_true, true_iff, iff_true, false_iff, iff_false, ne_eq, Bool.and_eq_false_iff, Bool.or_eq_false_iff, decide_not, not_true_eq_false, not_false_eq_true]; omega) | (simp_all [legalB]; done) | (simp_all [legalB]; omega))
theorem values_fn (a b : Int) (M : Mem) : Fv Try.prog 59 [.int .i64 a, .int .i64 b] M (.bool (legalB a b)) := by
  refine Fv.enter (E := [(0, _), (1, _)]) Try.func59 rfl Try.ntmps59 rfl rfl fun w0 => ?_
  repeat' (first | (refine WL.p rfl rfl rfl rfl rfl ?_) | (refine WL.nil ?_) | (refine R.region ?_) | (refine R.seq ?_) | (refine WL.i64 rfl rfl rfl rfl (by omega) ?_) | (refine WL.lb rfl rfl rfl rfl rfl rfl (by repeat constructor) (by rfl) ?_) | (refine WL.yes rfl rfl rfl rfl ?_) | (refine WL.no rfl rfl rfl rfl rfl rfl rfl ?_) | (refine R.block ?_) | (refine R.blk ?_) | (refine R.skip ?_) | (refine R.exit rfl ?_) | (refine R.condT rfl ?_) | (refine R.condF rfl ?_) | (refine R.ret ?_) | (refine WL.al rfl rfl rfl rfl rfl rfl ?_; intro b) | (refine WL.bx rfl rfl rfl rfl rfl rfl ?_; intro b) | (refine WL.sb rfl rfl rfl rfl rfl rfl rfl rfl rfl (by repeat constructor) (by rfl) ?_) | (refine WL.bd rfl rfl rfl rfl rfl ?_) | (refine WL.bs rfl rfl rfl rfl rfl rfl rfl rfl ?_; intro g) | (refine R.scope ?_) | (refine R.label ?_) | ((refine WL.gdP rfl rfl rfl rfl ?_ ?_) <;> intro hg <;> (try (exfalso; omega))) | ((refine WL.gdN rfl rfl rfl rfl ?_ ?_) <;> intro hg <;> (try (exfalso; omega))) | ((refine WL.gd rfl rfl rfl rfl ?_ ?_) <;> intro hg) | ((refine R.condP rfl ?_ ?_) <;> intro hc <;> (try (exfalso; omega))) | ((refine R.condN rfl ?_ ?_) <;> intro hc <;> (try (exfalso; omega))) | ((refine R.cond rfl ?_ ?_) <;> intro hc))
  all_goals refine R.retV rfl rfl fun _ => ?_
  all_goals (refine congrArg Value.bool ?_; rw [Bool.eq_iff_iff]; first | (simp only [legalB, Bool.and_eq_true, Bool.or_eq_true, Bool.not_eq_true', Bool.not_eq_false', decide_eq_true_eq, decide_eq_false_iff_not, Bool.false_eq_true, true_iff, iff_true, false_iff, iff_false, ne_eq, Bool.and_eq_false_iff, Bool.or_eq_false_iff, decide_not, not_true_eq_false, not_false_eq_true]; omega) | (simp_all [legalB]; done) | (simp_all [legalB]; omega))

theorem side_fn (n : Int) (M : Mem) : Fv Try.prog 41 [.int .i64 n] M (.bool (sideB n)) := by
  refine Fv.enter (E := [(0, _)]) Try.func41 rfl Try.ntmps41 rfl rfl fun w0 => ?_
  repeat' (first | (refine WL.p rfl rfl rfl rfl rfl ?_) | (refine WL.nil ?_) | (refine R.region ?_) | (refine R.seq ?_) | (refine WL.i64 rfl rfl rfl rfl (by omega) ?_) | (refine WL.lb rfl rfl rfl rfl rfl rfl (by repeat constructor) (by rfl) ?_) | (refine WL.yes rfl rfl rfl rfl ?_) | (refine WL.no rfl rfl rfl rfl rfl rfl rfl ?_) | (refine R.block ?_) | (refine R.blk ?_) | (refine R.skip ?_) | (refine R.exit rfl ?_) | (refine R.condT rfl ?_) | (refine R.condF rfl ?_) | (refine R.ret ?_) | (refine WL.al rfl rfl rfl rfl rfl rfl ?_; intro b) | (refine WL.bx rfl rfl rfl rfl rfl rfl ?_; intro b) | (refine WL.sb rfl rfl rfl rfl rfl rfl rfl rfl rfl (by repeat constructor) (by rfl) ?_) | (refine WL.bd rfl rfl rfl rfl rfl ?_) | (refine WL.bs rfl rfl rfl rfl rfl rfl rfl rfl ?_; intro g) | (refine R.scope ?_) | (refine R.label ?_) | ((refine WL.gdP rfl rfl rfl rfl ?_ ?_) <;> intro hg <;> (try (exfalso; omega))) | ((refine WL.gdN rfl rfl rfl rfl ?_ ?_) <;> intro hg <;> (try (exfalso; omega))) | ((refine WL.gd rfl rfl rfl rfl ?_ ?_) <;> intro hg) | ((refine R.condP rfl ?_ ?_) <;> intro hc <;> (try (exfalso; omega))) | ((refine R.condN rfl ?_ ?_) <;> intro hc <;> (try (exfalso; omega))) | ((refine R.cond rfl ?_ ?_) <;> intro hc))
  all_goals (refine R.retV rfl rfl fun _ => ?_; simp_all [sideB] <;> omega)
theorem rside_fn (n : Int) (M : Mem) : Fv Try.prog 42 [.int .i64 n] M (.bool (sideB n)) := by
  refine Fv.enter (E := [(0, _)]) Try.func42 rfl Try.ntmps42 rfl rfl fun w0 => ?_
  repeat' (first | (refine WL.p rfl rfl rfl rfl rfl ?_) | (refine WL.nil ?_) | (refine R.region ?_) | (refine R.seq ?_) | (refine WL.i64 rfl rfl rfl rfl (by omega) ?_) | (refine WL.lb rfl rfl rfl rfl rfl rfl (by repeat constructor) (by rfl) ?_) | (refine WL.yes rfl rfl rfl rfl ?_) | (refine WL.no rfl rfl rfl rfl rfl rfl rfl ?_) | (refine R.block ?_) | (refine R.blk ?_) | (refine R.skip ?_) | (refine R.exit rfl ?_) | (refine R.condT rfl ?_) | (refine R.condF rfl ?_) | (refine R.ret ?_) | (refine WL.al rfl rfl rfl rfl rfl rfl ?_; intro b) | (refine WL.bx rfl rfl rfl rfl rfl rfl ?_; intro b) | (refine WL.sb rfl rfl rfl rfl rfl rfl rfl rfl rfl (by repeat constructor) (by rfl) ?_) | (refine WL.bd rfl rfl rfl rfl rfl ?_) | (refine WL.bs rfl rfl rfl rfl rfl rfl rfl rfl ?_; intro g) | (refine R.scope ?_) | (refine R.label ?_) | ((refine WL.gdP rfl rfl rfl rfl ?_ ?_) <;> intro hg <;> (try (exfalso; omega))) | ((refine WL.gdN rfl rfl rfl rfl ?_ ?_) <;> intro hg <;> (try (exfalso; omega))) | ((refine WL.gd rfl rfl rfl rfl ?_ ?_) <;> intro hg) | ((refine R.condP rfl ?_ ?_) <;> intro hc <;> (try (exfalso; omega))) | ((refine R.condN rfl ?_ ?_) <;> intro hc <;> (try (exfalso; omega))) | ((refine R.cond rfl ?_ ?_) <;> intro hc))
  all_goals (refine R.retV rfl rfl fun _ => ?_; simp_all [sideB] <;> omega)

theorem rsize_fn (n : Int) (M : Mem) : Fv Try.prog 37 [.int .i64 n] M (.int .i64 (sizeI n)) := by
  refine Fv.enter (E := [(0, _)]) Try.func37 rfl Try.ntmps37 rfl rfl fun w0 => ?_
  repeat' (first | (refine WL.p rfl rfl rfl rfl rfl ?_) | (refine WL.nil ?_) | (refine R.region ?_) | (refine R.seq ?_) | (refine WL.i64 rfl rfl rfl rfl (by omega) ?_) | (refine WL.lb rfl rfl rfl rfl rfl rfl (by repeat constructor) (by rfl) ?_) | (refine WL.yes rfl rfl rfl rfl ?_) | (refine WL.no rfl rfl rfl rfl rfl rfl rfl ?_) | (refine R.block ?_) | (refine R.blk ?_) | (refine R.skip ?_) | (refine R.exit rfl ?_) | (refine R.condT rfl ?_) | (refine R.condF rfl ?_) | (refine R.ret ?_) | (refine WL.al rfl rfl rfl rfl rfl rfl ?_; intro b) | (refine WL.bx rfl rfl rfl rfl rfl rfl ?_; intro b) | (refine WL.sb rfl rfl rfl rfl rfl rfl rfl rfl rfl (by repeat constructor) (by rfl) ?_) | (refine WL.bd rfl rfl rfl rfl rfl ?_) | (refine WL.bs rfl rfl rfl rfl rfl rfl rfl rfl ?_; intro g) | (refine R.scope ?_) | (refine R.label ?_) | ((refine WL.gdP rfl rfl rfl rfl ?_ ?_) <;> intro hg <;> (try (exfalso; omega))) | ((refine WL.gdN rfl rfl rfl rfl ?_ ?_) <;> intro hg <;> (try (exfalso; omega))) | ((refine WL.gd rfl rfl rfl rfl ?_ ?_) <;> intro hg) | ((refine R.condP rfl ?_ ?_) <;> intro hc <;> (try (exfalso; omega))) | ((refine R.condN rfl ?_ ?_) <;> intro hc <;> (try (exfalso; omega))) | ((refine R.cond rfl ?_ ?_) <;> intro hc))
  all_goals (refine R.retV rfl rfl fun _ => ?_; simp_all [sizeI] <;> omega)

theorem wrong_fn (W H size : Int) (ao : Option Addr) (n cap b : Nat) (M : Mem) (hb : Cells M b 0 [.int .i64 size]) (hs : 0 ≤ size ∧ size ≤ 4) :
    Fv Try.prog 51 [.agg #[.int .i64 W, .int .i64 H, .slice ao n cap], .pointer (some ⟨b, 0, none⟩)] M (.bool (badL size W H n)) := by
  refine Fv.enter (E := [(0, _), (1, _)]) Try.func51 rfl Try.ntmps51 rfl rfl fun w0 => ?_
  repeat' (first | (refine WL.p rfl rfl rfl rfl rfl ?_) | (refine WL.nil ?_) | (refine R.region ?_) | (refine R.seq ?_) | (refine WL.i64 rfl rfl rfl rfl (by omega) ?_) | (refine WL.lb rfl rfl rfl rfl rfl rfl (by repeat constructor) (by rfl) ?_) | (refine WL.yes rfl rfl rfl rfl ?_) | (refine WL.no rfl rfl rfl rfl rfl rfl rfl ?_) | (refine R.block ?_) | (refine R.blk ?_) | (refine R.skip ?_) | (refine R.exit rfl ?_) | (refine R.condT rfl ?_) | (refine R.condF rfl ?_) | (refine R.ret ?_) | (refine WL.al rfl rfl rfl rfl rfl rfl ?_; intro b) | (refine WL.bx rfl rfl rfl rfl rfl rfl ?_; intro b) | (refine WL.sb rfl rfl rfl rfl rfl rfl rfl rfl rfl (by repeat constructor) (by rfl) ?_) | (refine WL.bd rfl rfl rfl rfl rfl ?_) | (refine WL.bs rfl rfl rfl rfl rfl rfl rfl rfl ?_; intro g) | (refine R.scope ?_) | (refine R.label ?_) | (refine WL.cv Try.call30 rfl rfl rfl rfl rfl rfl rfl rfl (none_fn W H ao n cap _) ?_) | (refine WL.cv Try.call41 rfl rfl rfl rfl rfl rfl rfl rfl (side_fn _ _) ?_) | ((refine WL.gdP rfl rfl rfl rfl ?_ ?_) <;> intro hg <;> (try (exfalso; omega))) | ((refine WL.gdN rfl rfl rfl rfl ?_ ?_) <;> intro hg <;> (try (exfalso; omega))) | ((refine WL.gd rfl rfl rfl rfl ?_ ?_) <;> intro hg) | ((refine R.condP rfl ?_ ?_) <;> intro hc <;> (try (exfalso; omega))) | ((refine R.condN rfl ?_ ?_) <;> intro hc <;> (try (exfalso; omega))) | ((refine R.cond rfl ?_ ?_) <;> intro hc))
  case' refine_1.refine_2.refine_2 =>
    have h1 : 1 ≤ W ∧ W ≤ 64 := sideB_bd (by simp_all)
    have h2 : 1 ≤ H ∧ H ≤ 64 := sideB_bd (by simp_all)
    have h3 := mul_bd (by omega) h1.2 (by omega) h2.2
    have h4 := mul_bd h3.1 h3.2 hs.1 hs.2
    repeat' (first | (refine WL.p rfl rfl rfl rfl rfl ?_) | (refine WL.nil ?_) | (refine R.region ?_) | (refine R.seq ?_) | (refine WL.i64 rfl rfl rfl rfl (by omega) ?_) | (refine WL.lb rfl rfl rfl rfl rfl rfl (by repeat constructor) (by rfl) ?_) | (refine WL.yes rfl rfl rfl rfl ?_) | (refine WL.no rfl rfl rfl rfl rfl rfl rfl ?_) | (refine R.block ?_) | (refine R.blk ?_) | (refine R.skip ?_) | (refine R.exit rfl ?_) | (refine R.condT rfl ?_) | (refine R.condF rfl ?_) | (refine R.ret ?_) | (refine WL.al rfl rfl rfl rfl rfl rfl ?_; intro b) | (refine WL.bx rfl rfl rfl rfl rfl rfl ?_; intro b) | (refine WL.sb rfl rfl rfl rfl rfl rfl rfl rfl rfl (by repeat constructor) (by rfl) ?_) | (refine WL.bd rfl rfl rfl rfl rfl ?_) | (refine WL.bs rfl rfl rfl rfl rfl rfl rfl rfl ?_; intro g) | (refine R.scope ?_) | (refine R.label ?_) | (refine WL.lm rfl rfl rfl rfl rfl rfl hb (by rfl) ?_) | ((refine WL.gdP rfl rfl rfl rfl ?_ ?_) <;> intro hg <;> (try (exfalso; omega))) | ((refine WL.gdN rfl rfl rfl rfl ?_ ?_) <;> intro hg <;> (try (exfalso; omega))) | ((refine WL.gd rfl rfl rfl rfl ?_ ?_) <;> intro hg) | ((refine R.condP rfl ?_ ?_) <;> intro hc <;> (try (exfalso; omega))) | ((refine R.condN rfl ?_ ?_) <;> intro hc <;> (try (exfalso; omega))) | ((refine R.cond rfl ?_ ?_) <;> intro hc))
  all_goals (refine R.retV rfl rfl fun _ => ?_; simp_all [badL])

/-- The channels of a format: where, how many bits, how far. -/
def chans (f : Int) : List (Int × Int × Int) :=
  if f = 1 then [(0, 8, 0), (1, 8, 8), (2, 8, 16), (3, 8, 24)] else if f = 2 then [(0, 5, 11), (1, 6, 5), (2, 5, 0)] else if f = 3 then [(0, 4, 12), (1, 4, 8), (2, 4, 4), (3, 4, 0)]
  else if f = 4 then [(0, 5, 11), (1, 5, 6), (2, 5, 1), (3, 1, 0)] else if f = 5 then [(0, 8, 0)] else if f = 6 then [(3, 8, 0)] else if f = 7 then [(0, 8, 0), (3, 8, 8)] else []
def chanCells (l : List (Int × Int × Int)) : List Value := l.flatMap fun c => [.int .i64 c.1, .int .i64 c.2.1, .int .i64 c.2.2]
def alphaF (f : Int) : Int := if f = 2 ∨ f = 5 then 65536 else 0
def fmtCells (f : Int) (cv : Value) : List Value := [.int .i64 (sizeI f), cv, .int .i32 0, .int .i32 0, .int .i32 0, .int .i32 (alphaF f)]

theorem formats_fn (M : Mem) : Fn Try.prog 67 [] [] M fun v S' M' => ∃ g g1 g2 g3 g4 g5 g6 g7, v = .slice (some ⟨g, 0, none⟩) 8 8 ∧ S' = [] ∧
    Cells M' g 0 ([.int .i64 0, .slice none 0 0, .int .i32 0, .int .i32 0, .int .i32 0, .int .i32 0] ++ fmtCells 1 (.slice (some ⟨g1, 0, none⟩) 4 4) ++ fmtCells 2 (.slice (some ⟨g2, 0, none⟩) 3 3) ++ fmtCells 3 (.slice (some ⟨g3, 0, none⟩) 4 4) ++ fmtCells 4 (.slice (some ⟨g4, 0, none⟩) 4 4)
      ++ fmtCells 5 (.slice (some ⟨g5, 0, none⟩) 1 1) ++ fmtCells 6 (.slice (some ⟨g6, 0, none⟩) 1 1) ++ fmtCells 7 (.slice (some ⟨g7, 0, none⟩) 2 2)) ∧
    Cells M' g1 0 (chanCells (chans 1)) ∧ Cells M' g2 0 (chanCells (chans 2)) ∧ Cells M' g3 0 (chanCells (chans 3)) ∧ Cells M' g4 0 (chanCells (chans 4)) ∧ Cells M' g5 0 (chanCells (chans 5)) ∧ Cells M' g6 0 (chanCells (chans 6)) ∧ Cells M' g7 0 (chanCells (chans 7)) := by
  refine Fn.enter (E := []) Try.func67 rfl Try.ntmps67 rfl rfl fun w0 => ?_
  repeat (first | (refine WL.p rfl rfl rfl rfl rfl ?_) | (refine WL.nil ?_) | (refine R.region ?_) | (refine R.seq ?_) | (refine WL.i64 rfl rfl rfl rfl (by omega) ?_) | (refine WL.lb rfl rfl rfl rfl rfl rfl (by repeat constructor) (by rfl) ?_) | (refine WL.yes rfl rfl rfl rfl ?_) | (refine WL.no rfl rfl rfl rfl rfl rfl rfl ?_) | (refine R.block ?_) | (refine R.blk ?_) | (refine R.skip ?_) | (refine R.exit rfl ?_) | (refine R.condT rfl ?_) | (refine R.condF rfl ?_) | (refine R.ret ?_) | (refine WL.al rfl rfl rfl rfl rfl rfl ?_; intro b) | (refine WL.bx rfl rfl rfl rfl rfl rfl ?_; intro b) | (refine WL.sb rfl rfl rfl rfl rfl rfl rfl rfl rfl (by repeat constructor) (by rfl) ?_) | (refine WL.bd rfl rfl rfl rfl rfl ?_) | (refine WL.bs rfl rfl rfl rfl rfl rfl rfl rfl ?_; intro g) | (refine R.scope ?_) | (refine R.label ?_))
  refine R.freezeRow Pull.here fun M1 m1 c0 => ?_
  refine R.freezeRow Pull.here fun M2 m2 c7 => ?_
  refine R.freezeRow Pull.here fun M3 m3 c6 => ?_
  refine R.freezeRow Pull.here fun M4 m4 c5 => ?_
  refine R.freezeRow Pull.here fun M5 m5 c4 => ?_
  refine R.freezeRow Pull.here fun M6 m6 c3 => ?_
  refine R.freezeRow Pull.here fun M7 m7 c2 => ?_
  refine R.freezeRow Pull.here fun M8 m8 c1 => ?_
  refine R.ret1 rfl rfl (List.nil_sublist _) fun _ => ?_
  have k0 := (c0.2.2 _ rfl (.inl (by decide))).2.mle (m2.trans (m3.trans (m4.trans (m5.trans (m6.trans (m7.trans m8))))))
  have k7 := (c7.2.2 _ rfl (.inl (by decide))).2.mle (m3.trans (m4.trans (m5.trans (m6.trans (m7.trans m8)))))
  have k6 := (c6.2.2 _ rfl (.inl (by decide))).2.mle (m4.trans (m5.trans (m6.trans (m7.trans m8))))
  have k5 := (c5.2.2 _ rfl (.inl (by decide))).2.mle (m5.trans (m6.trans (m7.trans m8)))
  have k4 := (c4.2.2 _ rfl (.inl (by decide))).2.mle (m6.trans (m7.trans m8))
  have k3 := (c3.2.2 _ rfl (.inl (by decide))).2.mle (m7.trans m8)
  have k2 := (c2.2.2 _ rfl (.inl (by decide))).2.mle m8
  have k1 := (c1.2.2 _ rfl (.inl (by decide))).2
  exact ⟨_, _, _, _, _, _, _, _, rfl, rfl, k0, k1, k2, k3, k4, k5, k6, k7⟩
end Go.Proofs.Ytaaiimlaklpjpaa
