/- Contract: whether an image may be. No condition. -/
import Derived.Test.YtaaiimlaklpjpaaImgC
namespace Go.Proofs.Ytaaiimlaklpjpaa
open Go
set_option linter.unusedVariables false
set_option linter.unusedSimpArgs false
set_option maxRecDepth 100000
set_option maxHeartbeats 4000000
attribute [local irreducible] WL R Fn Fv

/-- An image as it lies in memory. -/
structure RI where
  f : Int
  ao : Option Addr
  cap : Nat
  lv : List RL
  ws : Int
  wt : Int
  mn : Int
  mg : Int
def RI.val (x : RI) : Value := .agg #[.int .i64 x.f, .slice x.ao x.lv.length x.cap, .int .i64 x.ws, .int .i64 x.wt, .int .i64 x.mn, .int .i64 x.mg]
structure RI.ok (M : Mem) (x : RI) : Prop where
  sl : SlM M x.ao x.lv.length x.cap (x.lv.flatMap RL.cells)
  lv : ∀ r ∈ x.lv, r.ok M
  len : x.lv.length ≤ 4611686018427387904
  bytes : ∀ r ∈ x.lv, r.B.length ≤ 140737488355328

def lastNone (lv : List RL) : Bool := match lv.getLast? with | some r => noneB r.W r.H r.B.length | none => false
def RL.bad (size : Int) (r : RL) : Bool := badL size r.W r.H r.B.length
def rightB (x : RI) : Bool :=
  !decide (7 < (x.lv.length : Int)) && !(decide ((x.lv.length : Int) = 0) && !decide (x.f = 0)) && !(decide (0 < (x.lv.length : Int)) && (decide (sizeI x.f = 0) || lastNone x.lv)) && !x.lv.any (RL.bad (sizeI x.f)) &&
    legalB 1 x.ws && legalB 2 x.wt && legalB 3 x.mn && legalB 4 x.mg
def errI (b : Bool) : Int := if b then 0 else 180

theorem lastNone_get {lv : List RL} (h : 0 < lv.length) : lastNone lv = noneB (lv[lv.length - 1]'(by omega)).W (lv[lv.length - 1]'(by omega)).H (lv[lv.length - 1]'(by omega)).B.length := by
  unfold lastNone
  rw [List.getLast?_eq_getElem?, List.getElem?_eq_getElem (by omega)]

theorem check_core (f : Int) (ao : Option Addr) (cap : Nat) (lv : List RL) (ws wt mn mg : Int) (M : Mem) (hsl : SlM M ao lv.length cap (lv.flatMap RL.cells)) (hlen : lv.length ≤ 4611686018427387904) :
    Fv Try.prog 28 [.agg #[.int .i64 f, .slice ao lv.length cap, .int .i64 ws, .int .i64 wt, .int .i64 mn, .int .i64 mg]] M (.int .i64 (errI (rightB ⟨f, ao, cap, lv, ws, wt, mn, mg⟩))) := by
  have hsz := sizeI_bd f
  have hlast : 0 < lv.length → ∃ b off, ao = some ⟨b, off, none⟩ ∧ Cells M b off (lv.flatMap RL.cells) := fun h => hsl.some h
  refine Fv.enter (E := [(0, _)]) Try.func28 rfl Try.ntmps28 rfl rfl fun w0 => ?_
  repeat (first | (refine WL.p rfl rfl rfl rfl rfl ?_) | (refine WL.nil ?_) | (refine R.region ?_) | (refine R.seq ?_) | (refine WL.i64 rfl rfl rfl rfl (by omega) ?_) | (refine WL.lb rfl rfl rfl rfl rfl rfl (by repeat constructor) (by rfl) ?_) | (refine WL.yes rfl rfl rfl rfl ?_) | (refine WL.no rfl rfl rfl rfl rfl rfl rfl ?_) | (refine R.block ?_) | (refine R.blk ?_) | (refine R.skip ?_) | (refine R.exit rfl ?_) | (refine R.condT rfl ?_) | (refine R.condF rfl ?_) | (refine R.ret ?_) | (refine WL.al rfl rfl rfl rfl rfl rfl ?_; intro b) | (refine WL.bx rfl rfl rfl rfl rfl rfl ?_; intro b) | (refine WL.sb rfl rfl rfl rfl rfl rfl rfl rfl rfl (by repeat constructor) (by rfl) ?_) | (refine WL.bd rfl rfl rfl rfl rfl ?_) | (refine WL.bs rfl rfl rfl rfl rfl rfl rfl rfl ?_; intro g) | (refine R.scope ?_) | (refine R.label ?_))
  refine WL.cv Try.call40 rfl rfl rfl rfl rfl rfl rfl rfl (size_fn _ _) ?_
  repeat (first | (refine WL.p rfl rfl rfl rfl rfl ?_) | (refine WL.nil ?_) | (refine R.region ?_) | (refine R.seq ?_) | (refine WL.i64 rfl rfl rfl rfl (by omega) ?_) | (refine WL.lb rfl rfl rfl rfl rfl rfl (by repeat constructor) (by rfl) ?_) | (refine WL.yes rfl rfl rfl rfl ?_) | (refine WL.no rfl rfl rfl rfl rfl rfl rfl ?_) | (refine R.block ?_) | (refine R.blk ?_) | (refine R.skip ?_) | (refine R.exit rfl ?_) | (refine R.condT rfl ?_) | (refine R.condF rfl ?_) | (refine R.ret ?_) | (refine WL.al rfl rfl rfl rfl rfl rfl ?_; intro b) | (refine WL.bx rfl rfl rfl rfl rfl rfl ?_; intro b) | (refine WL.sb rfl rfl rfl rfl rfl rfl rfl rfl rfl (by repeat constructor) (by rfl) ?_) | (refine WL.bd rfl rfl rfl rfl rfl ?_) | (refine WL.bs rfl rfl rfl rfl rfl rfl rfl rfl ?_; intro g) | (refine R.scope ?_) | (refine R.label ?_))
  refine R.freezeBox Pull.here fun M1 m1 hb => ?_
  have hsl1 := hsl.mle m1
  by_cases h0 : lv.length = 0
  · obtain rfl : lv = [] := List.eq_nil_of_length_eq_zero h0
    repeat' (first | (refine WL.p rfl rfl rfl rfl rfl ?_) | (refine WL.nil ?_) | (refine R.region ?_) | (refine R.seq ?_) | (refine WL.i64 rfl rfl rfl rfl (by omega) ?_) | (refine WL.lb rfl rfl rfl rfl rfl rfl (by repeat constructor) (by rfl) ?_) | (refine WL.yes rfl rfl rfl rfl ?_) | (refine WL.no rfl rfl rfl rfl rfl rfl rfl ?_) | (refine R.block ?_) | (refine R.blk ?_) | (refine R.skip ?_) | (refine R.exit rfl ?_) | (refine R.condT rfl ?_) | (refine R.condF rfl ?_) | (refine R.ret ?_) | (refine WL.al rfl rfl rfl rfl rfl rfl ?_; intro b) | (refine WL.bx rfl rfl rfl rfl rfl rfl ?_; intro b) | (refine WL.sb rfl rfl rfl rfl rfl rfl rfl rfl rfl (by repeat constructor) (by rfl) ?_) | (refine WL.bd rfl rfl rfl rfl rfl ?_) | (refine WL.bs rfl rfl rfl rfl rfl rfl rfl rfl ?_; intro g) | (refine R.scope ?_) | (refine R.label ?_) | (refine WL.lm rfl rfl rfl rfl rfl rfl hb (by rfl) ?_) | (refine WL.cv Try.call52 rfl rfl rfl rfl rfl rfl rfl rfl (contains_fn hsl1 hlen 51 [_] (RL.bad (sizeI f)) Try.call51 (fun r hr => wrong_fn r.W r.H (sizeI f) r.ao r.B.length r.cap _ M1 hb hsz)) ?_) | (refine WL.cv Try.call53 rfl rfl rfl rfl rfl rfl rfl rfl (legal_fn _ _ _) ?_) | ((refine WL.gdP rfl rfl rfl rfl ?_ ?_) <;> intro hg <;> (try (exfalso; omega))) | ((refine WL.gdN rfl rfl rfl rfl ?_ ?_) <;> intro hg <;> (try (exfalso; omega))) | ((refine WL.gd rfl rfl rfl rfl ?_ ?_) <;> intro hg) | ((refine R.condP rfl ?_ ?_) <;> intro hc <;> (try (exfalso; omega))) | ((refine R.condN rfl ?_ ?_) <;> intro hc <;> (try (exfalso; omega))) | ((refine R.cond rfl ?_ ?_) <;> intro hc))
    all_goals (refine R.retV rfl rfl fun _ => ?_; refine congrArg (Value.int .i64) ?_; simp_all [errI, rightB])
  · obtain ⟨b0, off0, rfl, hc0⟩ := hlast (by omega)
    have hlv := (hc0.mle m1).lvl (k := lv.length - 1) (by omega)
    have hln := lastNone_get (lv := lv) (by omega)
    repeat' (first | (refine WL.p rfl rfl rfl rfl rfl ?_) | (refine WL.nil ?_) | (refine R.region ?_) | (refine R.seq ?_) | (refine WL.i64 rfl rfl rfl rfl (by omega) ?_) | (refine WL.lb rfl rfl rfl rfl rfl rfl (by repeat constructor) (by rfl) ?_) | (refine WL.yes rfl rfl rfl rfl ?_) | (refine WL.no rfl rfl rfl rfl rfl rfl rfl ?_) | (refine R.block ?_) | (refine R.blk ?_) | (refine R.skip ?_) | (refine R.exit rfl ?_) | (refine R.condT rfl ?_) | (refine R.condF rfl ?_) | (refine R.ret ?_) | (refine WL.al rfl rfl rfl rfl rfl rfl ?_; intro b) | (refine WL.bx rfl rfl rfl rfl rfl rfl ?_; intro b) | (refine WL.sb rfl rfl rfl rfl rfl rfl rfl rfl rfl (by repeat constructor) (by rfl) ?_) | (refine WL.bd rfl rfl rfl rfl rfl ?_) | (refine WL.bs rfl rfl rfl rfl rfl rfl rfl rfl ?_; intro g) | (refine R.scope ?_) | (refine R.label ?_) | (refine WL.lm rfl rfl rfl rfl rfl rfl hb (by rfl) ?_) | (refine WL.cv Try.call52 rfl rfl rfl rfl rfl rfl rfl rfl (contains_fn hsl1 hlen 51 [_] (RL.bad (sizeI f)) Try.call51 (fun r hr => wrong_fn r.W r.H (sizeI f) r.ao r.B.length r.cap _ M1 hb hsz)) ?_) | (refine WL.cv Try.call53 rfl rfl rfl rfl rfl rfl rfl rfl (legal_fn _ _ _) ?_) | (refine WL.ix (off0 + (lv.length - 1) * 3) rfl rfl rfl rfl rfl rfl rfl rfl rfl (by omega) (by omega) (by show _ + _ * 3 = _; omega) ?_) | (refine WL.lm rfl rfl rfl rfl rfl rfl hlv (by rfl) ?_) | (refine WL.cv Try.call30 rfl rfl rfl rfl rfl rfl rfl rfl (none_fn _ _ _ _ _ _) ?_) | ((refine WL.gdP rfl rfl rfl rfl ?_ ?_) <;> intro hg <;> (try (exfalso; omega))) | ((refine WL.gdN rfl rfl rfl rfl ?_ ?_) <;> intro hg <;> (try (exfalso; omega))) | ((refine WL.gd rfl rfl rfl rfl ?_ ?_) <;> intro hg) | ((refine R.condP rfl ?_ ?_) <;> intro hc <;> (try (exfalso; omega))) | ((refine R.condN rfl ?_ ?_) <;> intro hc <;> (try (exfalso; omega))) | ((refine R.cond rfl ?_ ?_) <;> intro hc))
    all_goals first | (refine R.retV rfl rfl fun _ => ?_; refine congrArg (Value.int .i64) ?_; simp_all [errI, rightB]; done) | (refine R.retV rfl rfl fun _ => ?_; refine congrArg (Value.int .i64) ?_; simp only [errI, rightB, hc, Bool.not_true, Bool.and_false, Bool.false_and, Bool.false_eq_true, if_false]; done)

theorem check_fn (x : RI) (M : Mem) (hx : x.ok M) : Fv Try.prog 28 [x.val] M (.int .i64 (errI (rightB x))) :=
  check_core x.f x.ao x.cap x.lv x.ws x.wt x.mn x.mg M hx.sl hx.len
end Go.Proofs.Ytaaiimlaklpjpaa
