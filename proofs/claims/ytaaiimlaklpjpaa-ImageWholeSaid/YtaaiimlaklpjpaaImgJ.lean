/- Contract: all levels, made by the program. No condition. -/
import Derived.Test.YtaaiimlaklpjpaaImgI
import Derived.Test.YtaaiimlaklpjpaaImgE
namespace Go.Proofs.Ytaaiimlaklpjpaa
open Go
set_option linter.unusedVariables false
set_option linter.unusedSimpArgs false
set_option maxRecDepth 100000
set_option maxHeartbeats 4000000
attribute [local irreducible] WL R Fn Fv

def noneP (l : PL) : Bool := noneB l.1 l.2.1 l.2.2.length
def badP (size : Int) (l : PL) : Bool := badL size l.1 l.2.1 l.2.2.length
def rightP (p : PI) : Bool :=
  !decide (7 < (p.lv.length : Int)) && !(decide ((p.lv.length : Int) = 0) && !decide (p.f = 0)) && !(decide (0 < (p.lv.length : Int)) && (decide (sizeI p.f = 0) || (match p.lv.getLast? with | some l => noneP l | none => false))) && !p.lv.any (badP (sizeI p.f)) &&
    legalB 1 p.ws && legalB 2 p.wt && legalB 3 p.mn && legalB 4 p.mg
theorem rightB_p (x : RI) : rightB x = rightP x.p := by
  unfold rightB rightP RI.p
  simp only [List.length_map, List.any_map, List.getLast?_map]
  congr 1
  congr 1
  congr 1
  congr 1
  congr 2
  unfold lastNone
  cases x.lv.getLast? <;> rfl
structure RightP (p : PI) : Prop where
  len : p.lv.length ≤ 7
  f : 0 < p.lv.length → 1 ≤ p.f ∧ p.f ≤ 7
  lv : ∀ l ∈ p.lv, noneP l = false → 1 ≤ l.1 ∧ l.1 ≤ 64 ∧ 1 ≤ l.2.1 ∧ l.2.1 ≤ 64 ∧ (l.2.2.length : Int) = l.1 * l.2.1 * sizeI p.f
  none : ∀ l ∈ p.lv, noneP l = true → l = (0, 0, [])
theorem noneP_eq {l : PL} (h : noneP l = true) : l = (0, 0, []) := by
  obtain ⟨a, b, c⟩ := l
  simp only [noneP, noneB, Bool.and_eq_true, decide_eq_true_eq] at h
  obtain ⟨⟨rfl, rfl⟩, h⟩ := h
  have hc : c = [] := List.eq_nil_of_length_eq_zero (by omega)
  rw [hc]
theorem RightP.of {p : PI} (h : rightP p = true) : RightP p := by
  unfold rightP at h
  simp only [Bool.and_eq_true, Bool.not_eq_true', decide_eq_false_iff_not, Bool.and_eq_false_iff, Bool.or_eq_false_iff] at h
  obtain ⟨⟨⟨⟨⟨⟨⟨h1, h2⟩, h3⟩, h4⟩, _⟩, _⟩, _⟩, _⟩ := h
  refine ⟨by omega, fun hp => ?_, fun l hl hn => ?_, fun l hl hn => noneP_eq hn⟩
  · rcases h3 with h3 | h3
    · omega
    · have := h3.1
      unfold sizeI at this
      omega
  · rw [List.any_eq_false] at h4
    have := h4 l hl
    unfold badP badL at this
    rw [show noneB l.1 l.2.1 l.2.2.length = false from hn] at this
    simp only [Bool.not_false, Bool.true_and, Bool.or_eq_true, Bool.not_eq_true', decide_eq_true_eq, not_or, Bool.not_eq_false, Decidable.not_not] at this
    have a := sideB_bd this.1.1
    have b := sideB_bd this.1.2
    exact ⟨a.1, a.2, b.1, b.2, this.2⟩

/-- What an errand on images ends with. -/
def zeroImg : Value := .agg #[.int .i64 0, .slice none 0 0, .int .i64 0, .int .i64 0, .int .i64 0, .int .i64 0]
def ResPost (r : Except Int PI) (M : Mem) (v : Value) (S' : List Own) (M' : Mem) : Prop :=
  match r with
  | .error e => v = .tuple #[zeroImg, .int .i64 e] ∧ S' = []
  | .ok q => ∃ v0, v = .tuple #[v0, .int .i64 0] ∧ ImgPost q M v0 S' M'

/-- The levels behind one. -/
def gens (f : Int) (W H : Nat) (B : List UInt8) : List PL :=
  if h : W ≤ 1 ∧ H ≤ 1 then [] else
    ((nextW W : Nat), (nextW H : Nat), halfB (szOf f) (bitsOf f) W H B (nextW H)) :: gens f (nextW W) (nextW H) (halfB (szOf f) (bitsOf f) W H B (nextW H))
termination_by (W - 1) + (H - 1)
decreasing_by all_goals (unfold nextW; omega)
def genP (p : PI) : Except Int PI :=
  if rightP p then
    match p.lv with
    | [] => .error 4
    | l :: _ => if noneP l then .error 4 else if powB l.1.toNat && powB l.2.1.toNat then .ok { p with lv := l :: gens p.f l.1.toNat l.2.1.toNat l.2.2 } else .error 2
  else .error 180

/-- The state of the loop that makes levels. -/
structure GS where
  W : Nat
  H : Nat
  B : List UInt8
  ao : Option Addr
  cap : Nat
  ls : List OL
  go : Option Nat
  gc : Nat
  M : Mem
structure GS.ok (f : Int) (M1 M0 : Mem) (goal : List PL) (z : GS) : Prop where
  le : Mle M1 z.M
  sl : SlM z.M z.ao z.B.length z.cap (u8s z.B)
  len : z.B.length = z.W * z.H * szOf f
  w : 1 ≤ z.W ∧ z.W ≤ 64
  h : 1 ≤ z.H ∧ z.H ≤ 64
  pw : powB z.W = true
  ph : powB z.H = true
  fr : Fresh M0 z.M z.ls
  goal : z.ls.map OL.p ++ gens f z.W z.H z.B = goal
  few : z.ls.length + (z.W - 1) + (z.H - 1) ≤ 200
theorem gens_more {f : Int} {W H : Nat} {B : List UInt8} (h : ¬ (W ≤ 1 ∧ H ≤ 1)) : gens f W H B = (((nextW W : Nat) : Int), ((nextW H : Nat) : Int), halfB (szOf f) (bitsOf f) W H B (nextW H)) :: gens f (nextW W) (nextW H) (halfB (szOf f) (bitsOf f) W H B (nextW H)) := by
  rw [gens, dif_neg h]
theorem gens_end {f : Int} {W H : Nat} {B : List UInt8} (h : W ≤ 1 ∧ H ≤ 1) : gens f W H B = [] := by rw [gens, dif_pos h]
theorem nextW_bd {w : Nat} (h : 1 ≤ w ∧ w ≤ 64) : 1 ≤ nextW w ∧ nextW w ≤ 64 ∧ nextW w ≤ w ∧ (1 < w → nextW w < w) := by unfold nextW; omega

theorem RI.mem_p {x : RI} {r : RL} (h : r ∈ x.lv) : r.p ∈ x.p.lv := List.mem_map.2 ⟨r, h, rfl⟩

theorem generate_core (f : Int) (ao : Option Addr) (cap : Nat) (lv : List RL) (ws wt mn mg : Int) (M : Mem) (hsl : SlM M ao lv.length cap (lv.flatMap RL.cells)) (hlvs : ∀ r ∈ lv, r.ok M) (hlen0 : lv.length ≤ 4611686018427387904) (hby : ∀ r ∈ lv, r.B.length ≤ 140737488355328) :
    Fn Try.prog 12 [.agg #[.int .i64 f, .slice ao lv.length cap, .int .i64 ws, .int .i64 wt, .int .i64 mn, .int .i64 mg]] [] M (ResPost (genP ⟨f, lv.map RL.p, ws, wt, mn, mg⟩) M) := by
  have hc := check_core f ao cap lv ws wt mn mg M hsl hlen0
  rw [rightB_p] at hc
  change Fv _ _ _ _ (.int .i64 (errI (rightP ⟨f, lv.map RL.p, ws, wt, mn, mg⟩))) at hc
  unfold genP
  cases hr : rightP ⟨f, lv.map RL.p, ws, wt, mn, mg⟩ with
  | false =>
    rw [hr] at hc
    refine Fn.enter (E := [(0, _)]) Try.func12 rfl Try.ntmps12 rfl rfl fun w0 => ?_
    repeat' (first | (refine WL.p rfl rfl rfl rfl rfl ?_) | (refine WL.nil ?_) | (refine R.region ?_) | (refine R.seq ?_) | (refine WL.i64 rfl rfl rfl rfl (by omega) ?_) | (refine WL.lb rfl rfl rfl rfl rfl rfl (by repeat constructor) (by rfl) ?_) | (refine WL.yes rfl rfl rfl rfl ?_) | (refine WL.no rfl rfl rfl rfl rfl rfl rfl ?_) | (refine R.block ?_) | (refine R.blk ?_) | (refine R.skip ?_) | (refine R.exit rfl ?_) | (refine R.condT rfl ?_) | (refine R.condF rfl ?_) | (refine R.ret ?_) | (refine WL.al rfl rfl rfl rfl rfl rfl ?_; intro b) | (refine WL.bx rfl rfl rfl rfl rfl rfl ?_; intro b) | (refine WL.sb rfl rfl rfl rfl rfl rfl rfl rfl rfl (by repeat constructor) (by rfl) ?_) | (refine WL.bd rfl rfl rfl rfl rfl ?_) | (refine WL.bs rfl rfl rfl rfl rfl rfl rfl rfl ?_; intro g) | (refine R.scope ?_) | (refine R.label ?_) | (refine WL.cv Try.call28 rfl rfl rfl rfl rfl rfl rfl rfl hc ?_) | ((refine WL.gdP rfl rfl rfl rfl ?_ ?_) <;> intro hg <;> (try (exfalso; omega))) | ((refine WL.gdN rfl rfl rfl rfl ?_ ?_) <;> intro hg <;> (try (exfalso; omega))) | ((refine WL.gd rfl rfl rfl rfl ?_ ?_) <;> intro hg) | ((refine R.condP rfl ?_ ?_) <;> intro hc <;> (try (exfalso; omega))) | ((refine R.condN rfl ?_ ?_) <;> intro hc <;> (try (exfalso; omega))) | ((refine R.cond rfl ?_ ?_) <;> intro hc))
    refine R.retCT rfl rfl rfl rfl (by repeat constructor) (by rfl) (List.nil_sublist _) fun _ => ⟨rfl, rfl⟩
  | true =>
    rw [hr] at hc
    have R0 := RightP.of hr
    rw [if_pos rfl]
    cases lv with
    | nil =>
      refine Fn.enter (E := [(0, _)]) Try.func12 rfl Try.ntmps12 rfl rfl fun w0 => ?_
      repeat' (first | (refine WL.p rfl rfl rfl rfl rfl ?_) | (refine WL.nil ?_) | (refine R.region ?_) | (refine R.seq ?_) | (refine WL.i64 rfl rfl rfl rfl (by omega) ?_) | (refine WL.lb rfl rfl rfl rfl rfl rfl (by repeat constructor) (by rfl) ?_) | (refine WL.yes rfl rfl rfl rfl ?_) | (refine WL.no rfl rfl rfl rfl rfl rfl rfl ?_) | (refine R.block ?_) | (refine R.blk ?_) | (refine R.skip ?_) | (refine R.exit rfl ?_) | (refine R.condT rfl ?_) | (refine R.condF rfl ?_) | (refine R.ret ?_) | (refine WL.al rfl rfl rfl rfl rfl rfl ?_; intro b) | (refine WL.bx rfl rfl rfl rfl rfl rfl ?_; intro b) | (refine WL.sb rfl rfl rfl rfl rfl rfl rfl rfl rfl (by repeat constructor) (by rfl) ?_) | (refine WL.bd rfl rfl rfl rfl rfl ?_) | (refine WL.bs rfl rfl rfl rfl rfl rfl rfl rfl ?_; intro g) | (refine R.scope ?_) | (refine R.label ?_) | (refine WL.cv Try.call28 rfl rfl rfl rfl rfl rfl rfl rfl hc ?_) | ((refine WL.gdP rfl rfl rfl rfl ?_ ?_) <;> intro hg <;> (try (exfalso; omega))) | ((refine WL.gdN rfl rfl rfl rfl ?_ ?_) <;> intro hg <;> (try (exfalso; omega))) | ((refine WL.gd rfl rfl rfl rfl ?_ ?_) <;> intro hg) | ((refine R.condP rfl ?_ ?_) <;> intro hc <;> (try (exfalso; omega))) | ((refine R.condN rfl ?_ ?_) <;> intro hc <;> (try (exfalso; omega))) | ((refine R.cond rfl ?_ ?_) <;> intro hc))
      refine R.retCT rfl rfl rfl rfl (by repeat constructor) (by rfl) (List.nil_sublist _) fun _ => ⟨rfl, rfl⟩
    | cons r0 lt =>
      have hlen : (r0 :: lt).length ≤ 7 := by have := R0.len; rwa [List.length_map] at this
      have hl1 : 1 ≤ (r0 :: lt).length := by simp
      obtain ⟨b0, off0, rfl, hcl⟩ := hsl.some (by omega)
      have hlv : Cells M b0 (off0 + 0 * 3) r0.cells := hcl.lvl (k := 0) (by omega)
      have hnn := none_fn r0.W r0.H r0.ao r0.B.length r0.cap M
      have hr0 : r0.ok M := hlvs r0 (List.Mem.head _)
      simp only [List.map_cons]
      cases hn : noneP r0.p with
      | true =>
        rw [show noneB r0.W r0.H r0.B.length = true from hn] at hnn
        rw [if_pos rfl]
        refine Fn.enter (E := [(0, _)]) Try.func12 rfl Try.ntmps12 rfl rfl fun w0 => ?_
        repeat' (first | (refine WL.p rfl rfl rfl rfl rfl ?_) | (refine WL.nil ?_) | (refine R.region ?_) | (refine R.seq ?_) | (refine WL.i64 rfl rfl rfl rfl (by omega) ?_) | (refine WL.lb rfl rfl rfl rfl rfl rfl (by repeat constructor) (by rfl) ?_) | (refine WL.yes rfl rfl rfl rfl ?_) | (refine WL.no rfl rfl rfl rfl rfl rfl rfl ?_) | (refine R.block ?_) | (refine R.blk ?_) | (refine R.skip ?_) | (refine R.exit rfl ?_) | (refine R.condT rfl ?_) | (refine R.condF rfl ?_) | (refine R.ret ?_) | (refine WL.al rfl rfl rfl rfl rfl rfl ?_; intro b) | (refine WL.bx rfl rfl rfl rfl rfl rfl ?_; intro b) | (refine WL.sb rfl rfl rfl rfl rfl rfl rfl rfl rfl (by repeat constructor) (by rfl) ?_) | (refine WL.bd rfl rfl rfl rfl rfl ?_) | (refine WL.bs rfl rfl rfl rfl rfl rfl rfl rfl ?_; intro g) | (refine R.scope ?_) | (refine R.label ?_) | (refine WL.cv Try.call28 rfl rfl rfl rfl rfl rfl rfl rfl hc ?_) | (refine WL.ix (off0 + 0 * 3) rfl rfl rfl rfl rfl rfl rfl rfl rfl (by omega) (by omega) (by show _ + _ * 3 = _; omega) ?_) | (refine WL.lm rfl rfl rfl rfl rfl rfl hlv (by rfl) ?_) | (refine WL.cv Try.call30 rfl rfl rfl rfl rfl rfl rfl rfl hnn ?_) | ((refine WL.gdP rfl rfl rfl rfl ?_ ?_) <;> intro hg <;> (try (exfalso; omega))) | ((refine WL.gdN rfl rfl rfl rfl ?_ ?_) <;> intro hg <;> (try (exfalso; omega))) | ((refine WL.gd rfl rfl rfl rfl ?_ ?_) <;> intro hg) | ((refine R.condP rfl ?_ ?_) <;> intro hc <;> (try (exfalso; omega))) | ((refine R.condN rfl ?_ ?_) <;> intro hc <;> (try (exfalso; omega))) | ((refine R.cond rfl ?_ ?_) <;> intro hc))
        refine R.retCT rfl rfl rfl rfl (by repeat constructor) (by rfl) (List.nil_sublist _) fun _ => ⟨rfl, rfl⟩
      | false =>
        rw [show noneB r0.W r0.H r0.B.length = false from hn] at hnn
        obtain ⟨w1, w2, h1, h2, hB⟩ := R0.lv r0.p (List.Mem.head _) hn
        obtain ⟨f1, f7⟩ := R0.f (by show 0 < (List.map RL.p (r0 :: lt)).length; simp)
        obtain ⟨W, hW⟩ : ∃ W : Nat, r0.W = W := ⟨r0.W.toNat, by have : 1 ≤ r0.W := w1; omega⟩
        obtain ⟨H, hH⟩ : ∃ H : Nat, r0.H = H := ⟨r0.H.toNat, by have : 1 ≤ r0.H := h1; omega⟩
        obtain ⟨rW, rH, ra, rc, rB⟩ := r0
        simp only at hW hH
        subst hW hH
        simp only [RL.p] at w1 w2 h1 h2 hB
        simp only [RL.p, Int.toNat_natCast, Bool.false_eq_true, if_false]
        have pW := power_fn W (by omega) (by omega) M
        have pH := power_fn H (by omega) (by omega) M
        by_cases hpw : powB W = false
        · rw [hpw] at pW
          simp only [hpw, Bool.false_and, Bool.false_eq_true, if_false]
          refine Fn.enter (E := [(0, _)]) Try.func12 rfl Try.ntmps12 rfl rfl fun w0 => ?_
          repeat' (first | (refine WL.p rfl rfl rfl rfl rfl ?_) | (refine WL.nil ?_) | (refine R.region ?_) | (refine R.seq ?_) | (refine WL.i64 rfl rfl rfl rfl (by omega) ?_) | (refine WL.lb rfl rfl rfl rfl rfl rfl (by repeat constructor) (by rfl) ?_) | (refine WL.yes rfl rfl rfl rfl ?_) | (refine WL.no rfl rfl rfl rfl rfl rfl rfl ?_) | (refine R.block ?_) | (refine R.blk ?_) | (refine R.skip ?_) | (refine R.exit rfl ?_) | (refine R.condT rfl ?_) | (refine R.condF rfl ?_) | (refine R.ret ?_) | (refine WL.al rfl rfl rfl rfl rfl rfl ?_; intro b) | (refine WL.bx rfl rfl rfl rfl rfl rfl ?_; intro b) | (refine WL.sb rfl rfl rfl rfl rfl rfl rfl rfl rfl (by repeat constructor) (by rfl) ?_) | (refine WL.bd rfl rfl rfl rfl rfl ?_) | (refine WL.bs rfl rfl rfl rfl rfl rfl rfl rfl ?_; intro g) | (refine R.scope ?_) | (refine R.label ?_) | (refine WL.cv Try.call28 rfl rfl rfl rfl rfl rfl rfl rfl hc ?_) | (refine WL.ix (off0 + 0 * 3) rfl rfl rfl rfl rfl rfl rfl rfl rfl (by omega) (by omega) (by show _ + _ * 3 = _; omega) ?_) | (refine WL.lm rfl rfl rfl rfl rfl rfl hlv (by rfl) ?_) | (refine WL.cv Try.call30 rfl rfl rfl rfl rfl rfl rfl rfl hnn ?_) | (refine WL.cv Try.call31 rfl rfl rfl rfl rfl rfl rfl rfl pW ?_) | ((refine WL.gdP rfl rfl rfl rfl ?_ ?_) <;> intro hg <;> (try (exfalso; omega))) | ((refine WL.gdN rfl rfl rfl rfl ?_ ?_) <;> intro hg <;> (try (exfalso; omega))) | ((refine WL.gd rfl rfl rfl rfl ?_ ?_) <;> intro hg) | ((refine R.condP rfl ?_ ?_) <;> intro hc <;> (try (exfalso; omega))) | ((refine R.condN rfl ?_ ?_) <;> intro hc <;> (try (exfalso; omega))) | ((refine R.cond rfl ?_ ?_) <;> intro hc))
          refine R.retCT rfl rfl rfl rfl (by repeat constructor) (by rfl) (List.nil_sublist _) fun _ => ⟨rfl, rfl⟩
        · have hpw : powB W = true := by simpa using hpw
          rw [hpw] at pW
          by_cases hph : powB H = false
          · rw [hph] at pH
            simp only [hph, Bool.and_false, Bool.false_eq_true, if_false]
            refine Fn.enter (E := [(0, _)]) Try.func12 rfl Try.ntmps12 rfl rfl fun w0 => ?_
            repeat' (first | (refine WL.p rfl rfl rfl rfl rfl ?_) | (refine WL.nil ?_) | (refine R.region ?_) | (refine R.seq ?_) | (refine WL.i64 rfl rfl rfl rfl (by omega) ?_) | (refine WL.lb rfl rfl rfl rfl rfl rfl (by repeat constructor) (by rfl) ?_) | (refine WL.yes rfl rfl rfl rfl ?_) | (refine WL.no rfl rfl rfl rfl rfl rfl rfl ?_) | (refine R.block ?_) | (refine R.blk ?_) | (refine R.skip ?_) | (refine R.exit rfl ?_) | (refine R.condT rfl ?_) | (refine R.condF rfl ?_) | (refine R.ret ?_) | (refine WL.al rfl rfl rfl rfl rfl rfl ?_; intro b) | (refine WL.bx rfl rfl rfl rfl rfl rfl ?_; intro b) | (refine WL.sb rfl rfl rfl rfl rfl rfl rfl rfl rfl (by repeat constructor) (by rfl) ?_) | (refine WL.bd rfl rfl rfl rfl rfl ?_) | (refine WL.bs rfl rfl rfl rfl rfl rfl rfl rfl ?_; intro g) | (refine R.scope ?_) | (refine R.label ?_) | (refine WL.cv Try.call28 rfl rfl rfl rfl rfl rfl rfl rfl hc ?_) | (refine WL.ix (off0 + 0 * 3) rfl rfl rfl rfl rfl rfl rfl rfl rfl (by omega) (by omega) (by show _ + _ * 3 = _; omega) ?_) | (refine WL.lm rfl rfl rfl rfl rfl rfl hlv (by rfl) ?_) | (refine WL.cv Try.call30 rfl rfl rfl rfl rfl rfl rfl rfl hnn ?_) | (refine WL.cv Try.call31 rfl rfl rfl rfl rfl rfl rfl rfl pW ?_) | (refine WL.cv Try.call31 rfl rfl rfl rfl rfl rfl rfl rfl pH ?_) | ((refine WL.gdP rfl rfl rfl rfl ?_ ?_) <;> intro hg <;> (try (exfalso; omega))) | ((refine WL.gdN rfl rfl rfl rfl ?_ ?_) <;> intro hg <;> (try (exfalso; omega))) | ((refine WL.gd rfl rfl rfl rfl ?_ ?_) <;> intro hg) | ((refine R.condP rfl ?_ ?_) <;> intro hc <;> (try (exfalso; omega))) | ((refine R.condN rfl ?_ ?_) <;> intro hc <;> (try (exfalso; omega))) | ((refine R.cond rfl ?_ ?_) <;> intro hc))
            refine R.retCT rfl rfl rfl rfl (by repeat constructor) (by rfl) (List.nil_sublist _) fun _ => ⟨rfl, rfl⟩
          · have hph : powB H = true := by simpa using hph
            rw [hph] at pH
            simp only [hpw, hph, Bool.and_true, if_true]
            have hcap := hsl.1
            have hsl1 : SlM M (some ⟨b0, off0, none⟩) [(⟨W, H, ra, rc, rB⟩ : RL)].length cap ([(⟨W, H, ra, rc, rB⟩ : RL)].flatMap RL.cells) := by
              refine ⟨(by show 1 ≤ cap; omega), (fun h => by cases h), fun a ha _ => ?_⟩
              cases ha
              exact ⟨rfl, by simpa using hlv⟩
            have hBn : rB.length = W * H * szOf f := by
              obtain ⟨_, _, _, _, _, hsz⟩ := bits_ok f ⟨f1, f7⟩
              have : ((rB.length : Nat) : Int) = ((W * H * szOf f : Nat) : Int) := by rw [hB, hsz]; push_cast; rfl
              exact Int.ofNat.inj this
            have hclone := clone_core f (some ⟨b0, off0, none⟩) cap [⟨W, H, ra, rc, rB⟩] ws wt mn mg M hsl1 (by intro r hr; rw [List.mem_singleton.1 hr]; exact hr0) (by show 1 ≤ 1000; omega) (by intro r hr; rw [List.mem_singleton.1 hr]; exact hby _ (List.Mem.head _))
            refine Fn.enter (E := [(0, _)]) Try.func12 rfl Try.ntmps12 rfl rfl fun w0 => ?_
            repeat' (first | (refine WL.p rfl rfl rfl rfl rfl ?_) | (refine WL.nil ?_) | (refine R.region ?_) | (refine R.seq ?_) | (refine WL.i64 rfl rfl rfl rfl (by omega) ?_) | (refine WL.lb rfl rfl rfl rfl rfl rfl (by repeat constructor) (by rfl) ?_) | (refine WL.yes rfl rfl rfl rfl ?_) | (refine WL.no rfl rfl rfl rfl rfl rfl rfl ?_) | (refine R.block ?_) | (refine R.blk ?_) | (refine R.skip ?_) | (refine R.exit rfl ?_) | (refine R.condT rfl ?_) | (refine R.condF rfl ?_) | (refine R.ret ?_) | (refine WL.al rfl rfl rfl rfl rfl rfl ?_; intro b) | (refine WL.bx rfl rfl rfl rfl rfl rfl ?_; intro b) | (refine WL.sb rfl rfl rfl rfl rfl rfl rfl rfl rfl (by repeat constructor) (by rfl) ?_) | (refine WL.bd rfl rfl rfl rfl rfl ?_) | (refine WL.bs rfl rfl rfl rfl rfl rfl rfl rfl ?_; intro g) | (refine R.scope ?_) | (refine R.label ?_) | (refine WL.cv Try.call28 rfl rfl rfl rfl rfl rfl rfl rfl hc ?_) | (refine WL.ix (off0 + 0 * 3) rfl rfl rfl rfl rfl rfl rfl rfl rfl (by omega) (by omega) (by show _ + _ * 3 = _; omega) ?_) | (refine WL.lm rfl rfl rfl rfl rfl rfl hlv (by rfl) ?_) | (refine WL.cv Try.call30 rfl rfl rfl rfl rfl rfl rfl rfl hnn ?_) | (refine WL.cv Try.call31 rfl rfl rfl rfl rfl rfl rfl rfl pW ?_) | (refine WL.cv Try.call31 rfl rfl rfl rfl rfl rfl rfl rfl pH ?_) | (refine WL.slTo 1 rfl rfl rfl rfl rfl rfl rfl rfl rfl (by omega) ?_) | ((refine WL.gdP rfl rfl rfl rfl ?_ ?_) <;> intro hg <;> (try (exfalso; omega))) | ((refine WL.gdN rfl rfl rfl rfl ?_ ?_) <;> intro hg <;> (try (exfalso; omega))) | ((refine WL.gd rfl rfl rfl rfl ?_ ?_) <;> intro hg) | ((refine R.condP rfl ?_ ?_) <;> intro hc <;> (try (exfalso; omega))) | ((refine R.condN rfl ?_ ?_) <;> intro hc <;> (try (exfalso; omega))) | ((refine R.cond rfl ?_ ?_) <;> intro hc))
            refine WL.call Try.call32 rfl rfl rfl rfl rfl rfl rfl rfl (Sin := []) rfl hclone ?_
            rintro v S1 M1 hm ⟨go, gc, ls, rfl, rfl, hfr, hp⟩
            repeat (first | (refine WL.p rfl rfl rfl rfl rfl ?_) | (refine WL.nil ?_) | (refine R.region ?_) | (refine R.seq ?_) | (refine WL.i64 rfl rfl rfl rfl (by omega) ?_) | (refine WL.lb rfl rfl rfl rfl rfl rfl (by repeat constructor) (by rfl) ?_) | (refine WL.yes rfl rfl rfl rfl ?_) | (refine WL.no rfl rfl rfl rfl rfl rfl rfl ?_) | (refine R.block ?_) | (refine R.blk ?_) | (refine R.skip ?_) | (refine R.exit rfl ?_) | (refine R.condT rfl ?_) | (refine R.condF rfl ?_) | (refine R.ret ?_) | (refine WL.al rfl rfl rfl rfl rfl rfl ?_; intro b) | (refine WL.bx rfl rfl rfl rfl rfl rfl ?_; intro b) | (refine WL.sb rfl rfl rfl rfl rfl rfl rfl rfl rfl (by repeat constructor) (by rfl) ?_) | (refine WL.bd rfl rfl rfl rfl rfl ?_) | (refine WL.bs rfl rfl rfl rfl rfl rfl rfl rfl ?_; intro g) | (refine R.scope ?_) | (refine R.label ?_))
            rename_i b1 b2
            have hl1' : ls.length = 1 := by have := congrArg List.length hp; simpa using this
            have hgs : GS.ok f M1 M ((↑W, ↑H, rB) :: gens f W H rB) ⟨W, H, rB, ra, rc, ls, go, gc, M1⟩ :=
              { le := Mle.refl _, sl := hr0.mle hm, len := hBn, w := (show 1 ≤ W ∧ W ≤ 64 by omega), h := (show 1 ≤ H ∧ H ≤ 64 by omega), pw := hpw, ph := hph, fr := hfr, goal := (by rw [hp]; rfl), few := (show ls.length + (W - 1) + (H - 1) ≤ 200 by omega) }
            refine R.loop (α := GS) (fun _ => [(1, .pointer (some ⟨b1, 0, none⟩)), (2, .pointer (some ⟨b2, 0, none⟩)), (5, .pointer (some ⟨b, 0, none⟩)), (3, .int .i64 0)])
              (fun z => [.row z.go z.gc 34 3 z.ls.length (z.ls.flatMap OL.cells), .box b [.int .i64 z.W, .int .i64 z.H, .slice z.ao z.B.length z.cap] 34, .box b2 [.int .i64 0, .slice none 0 0, .int .i64 0, .int .i64 0, .int .i64 0, .int .i64 0] 24, .box b1 [.int .i64 f, rowV z.go z.ls.length z.gc, .int .i64 ws, .int .i64 wt, .int .i64 mn, .int .i64 mg] 24])
              (fun z => z.M) (GS.ok f M1 M ((↑W, ↑H, rB) :: gens f W H rB)) (fun z => (z.W - 1) + (z.H - 1)) ⟨W, H, rB, ra, rc, ls, go, gc, M1⟩
              hgs (by repeat (first | refine Sub.cons rfl ?_ | exact Sub.nil _)) (List.Sublist.refl _) rfl ?_
            rintro ⟨W, H, B, ao, cp, ls, go, gc, M2⟩ J ⟨hle, hsl, hBl, hw, hh, hpw, hph, hfr, hgoal, hfew⟩ again
            simp only at hle hsl hBl hw hh hpw hph hfr hgoal hfew
            dsimp only
            by_cases h11 : W = 1 ∧ H = 1
            · rw [gens_end (by omega), List.append_nil] at hgoal
              repeat' (first | (refine WL.p rfl rfl rfl rfl rfl ?_) | (refine WL.nil ?_) | (refine R.region ?_) | (refine R.seq ?_) | (refine WL.i64 rfl rfl rfl rfl (by omega) ?_) | (refine WL.lb rfl rfl rfl rfl rfl rfl (by repeat constructor) (by rfl) ?_) | (refine WL.yes rfl rfl rfl rfl ?_) | (refine WL.no rfl rfl rfl rfl rfl rfl rfl ?_) | (refine R.block ?_) | (refine R.blk ?_) | (refine R.skip ?_) | (refine R.exit rfl ?_) | (refine R.condT rfl ?_) | (refine R.condF rfl ?_) | (refine R.ret ?_) | (refine WL.al rfl rfl rfl rfl rfl rfl ?_; intro b) | (refine WL.bx rfl rfl rfl rfl rfl rfl ?_; intro b) | (refine WL.sb rfl rfl rfl rfl rfl rfl rfl rfl rfl (by repeat constructor) (by rfl) ?_) | (refine WL.bd rfl rfl rfl rfl rfl ?_) | (refine WL.bs rfl rfl rfl rfl rfl rfl rfl rfl ?_; intro g) | (refine R.scope ?_) | (refine R.label ?_) | ((refine WL.gdP rfl rfl rfl rfl ?_ ?_) <;> intro hg <;> (try (exfalso; omega))) | ((refine WL.gdN rfl rfl rfl rfl ?_ ?_) <;> intro hg <;> (try (exfalso; omega))) | ((refine WL.gd rfl rfl rfl rfl ?_ ?_) <;> intro hg) | ((refine R.condP rfl ?_ ?_) <;> intro hc <;> (try (exfalso; omega))) | ((refine R.condN rfl ?_ ?_) <;> intro hc <;> (try (exfalso; omega))) | ((refine R.cond rfl ?_ ?_) <;> intro hc))
              refine R.retCT rfl rfl rfl rfl (by repeat constructor) (by rfl) (S2 := [_]) (List.Sublist.cons_cons _ (List.nil_sublist _)) fun _ => ⟨_, rfl, go, gc, ls, rfl, rfl, hfr, hgoal⟩
            · have hhalf := half_fn f ⟨f1, f7⟩ W H ao cp B M2 hsl hBl hw.1 hw.2 hh.1 hh.2 (powB_even W (by omega) hpw) (powB_even H (by omega) hph)
              have nW := nextW_bd hw
              have nH := nextW_bd hh
              rw [gens_more (by omega)] at hgoal
              repeat' (first | (refine WL.p rfl rfl rfl rfl rfl ?_) | (refine WL.nil ?_) | (refine R.region ?_) | (refine R.seq ?_) | (refine WL.i64 rfl rfl rfl rfl (by omega) ?_) | (refine WL.lb rfl rfl rfl rfl rfl rfl (by repeat constructor) (by rfl) ?_) | (refine WL.yes rfl rfl rfl rfl ?_) | (refine WL.no rfl rfl rfl rfl rfl rfl rfl ?_) | (refine R.block ?_) | (refine R.blk ?_) | (refine R.skip ?_) | (refine R.exit rfl ?_) | (refine R.condT rfl ?_) | (refine R.condF rfl ?_) | (refine R.ret ?_) | (refine WL.al rfl rfl rfl rfl rfl rfl ?_; intro b) | (refine WL.bx rfl rfl rfl rfl rfl rfl ?_; intro b) | (refine WL.sb rfl rfl rfl rfl rfl rfl rfl rfl rfl (by repeat constructor) (by rfl) ?_) | (refine WL.bd rfl rfl rfl rfl rfl ?_) | (refine WL.bs rfl rfl rfl rfl rfl rfl rfl rfl ?_; intro g) | (refine R.scope ?_) | (refine R.label ?_) | ((refine WL.gdP rfl rfl rfl rfl ?_ ?_) <;> intro hg <;> (try (exfalso; omega))) | ((refine WL.gdN rfl rfl rfl rfl ?_ ?_) <;> intro hg <;> (try (exfalso; omega))) | ((refine WL.gd rfl rfl rfl rfl ?_ ?_) <;> intro hg) | ((refine R.condP rfl ?_ ?_) <;> intro hc <;> (try (exfalso; omega))) | ((refine R.condN rfl ?_ ?_) <;> intro hc <;> (try (exfalso; omega))) | ((refine R.cond rfl ?_ ?_) <;> intro hc))
              all_goals
                refine WL.call Try.call33 rfl rfl rfl rfl rfl rfl rfl rfl (Sin := []) rfl hhalf ?_
                rintro v S1 M3 hm3 ⟨gn, cn, rfl, rfl, hm4⟩
                repeat (first | (refine WL.p rfl rfl rfl rfl rfl ?_) | (refine WL.nil ?_) | (refine R.region ?_) | (refine R.seq ?_) | (refine WL.i64 rfl rfl rfl rfl (by omega) ?_) | (refine WL.lb rfl rfl rfl rfl rfl rfl (by repeat constructor) (by rfl) ?_) | (refine WL.yes rfl rfl rfl rfl ?_) | (refine WL.no rfl rfl rfl rfl rfl rfl rfl ?_) | (refine R.block ?_) | (refine R.blk ?_) | (refine R.skip ?_) | (refine R.exit rfl ?_) | (refine R.condT rfl ?_) | (refine R.condF rfl ?_) | (refine R.ret ?_) | (refine WL.al rfl rfl rfl rfl rfl rfl ?_; intro b) | (refine WL.bx rfl rfl rfl rfl rfl rfl ?_; intro b) | (refine WL.sb rfl rfl rfl rfl rfl rfl rfl rfl rfl (by repeat constructor) (by rfl) ?_) | (refine WL.bd rfl rfl rfl rfl rfl ?_) | (refine WL.bs rfl rfl rfl rfl rfl rfl rfl rfl ?_; intro g) | (refine R.scope ?_) | (refine R.label ?_))
                refine WL.app (news := [.int .i64 (nextW W), .int .i64 (nextW H), rowV gn (halfB (szOf f) (bitsOf f) W H B (nextW H)).length cn]) rfl rfl rfl rfl rfl rfl rfl rfl rfl rfl (by repeat constructor) (by intro h; cases h) (Src.ofRow (by repeat constructor)) (by rfl) (allOne_mem rfl) (by omega) (by show (_ + 1) * 40 ≤ _; omega) ?_
                intro g4 c4 _
                refine WL.frz (ao := gn) (cap := cn) (by repeat constructor) fun M5 hm5 hrow hnew => ?_
                repeat (first | (refine WL.p rfl rfl rfl rfl rfl ?_) | (refine WL.nil ?_) | (refine R.region ?_) | (refine R.seq ?_) | (refine WL.i64 rfl rfl rfl rfl (by omega) ?_) | (refine WL.lb rfl rfl rfl rfl rfl rfl (by repeat constructor) (by rfl) ?_) | (refine WL.yes rfl rfl rfl rfl ?_) | (refine WL.no rfl rfl rfl rfl rfl rfl rfl ?_) | (refine R.block ?_) | (refine R.blk ?_) | (refine R.skip ?_) | (refine R.exit rfl ?_) | (refine R.condT rfl ?_) | (refine R.condF rfl ?_) | (refine R.ret ?_) | (refine WL.al rfl rfl rfl rfl rfl rfl ?_; intro b) | (refine WL.bx rfl rfl rfl rfl rfl rfl ?_; intro b) | (refine WL.sb rfl rfl rfl rfl rfl rfl rfl rfl rfl (by repeat constructor) (by rfl) ?_) | (refine WL.bd rfl rfl rfl rfl rfl ?_) | (refine WL.bs rfl rfl rfl rfl rfl rfl rfl rfl ?_; intro g) | (refine R.scope ?_) | (refine R.label ?_))
                refine again ⟨nextW W, nextW H, halfB (szOf f) (bitsOf f) W H B (nextW H), gn.map fun g => ⟨g, 0, none⟩, cn, ls ++ [⟨nextW W, nextW H, gn, cn, halfB (szOf f) (bitsOf f) W H B (nextW H)⟩], g4, c4, M5⟩ _ _ _ ⟨hle.trans (hm4.trans hm5), hrow.sl, ?_, ⟨nW.1, nW.2.1⟩, ⟨nH.1, nH.2.1⟩, powB_next W (by omega) hpw, powB_next H (by omega) hph, ?_, ?_, ?_⟩ (by show (nextW W - 1) + (nextW H - 1) < (W - 1) + (H - 1); omega) (by repeat (first | refine Sub.cons rfl ?_ | exact Sub.nil _)) ?_ rfl
                · exact halfB_length _ _ _ _ _ _ |>.trans (by rw [Nat.mul_comm (nextW H)])
                · exact (hfr.mle hm4).snoc (o := ⟨nextW W, nextW H, gn, cn, halfB (szOf f) (bitsOf f) W H B (nextW H)⟩) (hm.trans (hle.trans hm4)) hm5 hrow hnew
                · show (ls ++ [_]).map OL.p ++ _ = _
                  rw [List.map_append, List.append_assoc]
                  exact hgoal
                · show (ls ++ [_]).length + _ + _ ≤ 200
                  rw [List.length_append]
                  show ls.length + 1 + (nextW W - 1) + (nextW H - 1) ≤ 200
                  omega
                · dsimp only
                  rw [List.flatMap_append, List.length_append, show [(⟨nextW W, nextW H, gn, cn, halfB (szOf f) (bitsOf f) W H B (nextW H)⟩ : OL)].flatMap OL.cells = [.int .i64 (nextW W), .int .i64 (nextW H), rowV gn (halfB (szOf f) (bitsOf f) W H B (nextW H)).length cn] from rfl]
                  exact (by first | apply List.Sublist.refl | apply List.nil_sublist | apply List.sublist_cons_self | (repeat (first | apply List.Sublist.refl | apply List.nil_sublist | apply List.Sublist.cons_cons | apply List.Sublist.cons)))
end Go.Proofs.Ytaaiimlaklpjpaa
