/- Contract: all levels, made by the reference. No condition. -/
import Derived.Test.YtaaiimlaklpjpaaImgJ
import Derived.Test.YtaaiimlaklpjpaaImgK
import Derived.Test.YtaaiimlaklpjpaaEngJ
namespace Go.Proofs.Ytaaiimlaklpjpaa
open Go
set_option linter.unusedVariables false
set_option linter.unusedSimpArgs false
set_option maxRecDepth 100000
set_option maxHeartbeats 4000000
attribute [local irreducible] WL R Fn Fv

def thereP (lv : List PL) (n : Int) : Bool := decide (0 ≤ n) && (match lv[n.toNat]? with | some l => !noneP l | none => false)
theorem there_core (f : Int) (ao : Option Addr) (cap : Nat) (lv : List RL) (ws wt mn mg : Int) (n : Int) (M : Mem) (hsl : SlM M ao lv.length cap (lv.flatMap RL.cells)) :
    Fv Try.prog 35 [.agg #[.int .i64 f, .slice ao lv.length cap, .int .i64 ws, .int .i64 wt, .int .i64 mn, .int .i64 mg], .int .i64 n] M (.bool (thereP (lv.map RL.p) n)) := by
  by_cases h : 0 ≤ n ∧ n.toNat < lv.length
  · obtain ⟨b0, off0, rfl, hcl⟩ := hsl.some (by omega)
    have hlv := hcl.lvl h.2
    have hv : thereP (lv.map RL.p) n = !noneP lv[n.toNat].p := by
      unfold thereP
      rw [List.getElem?_map, List.getElem?_eq_getElem h.2]
      simp [h.1]
    rw [hv]
    have hnn := rnone_fn lv[n.toNat].W lv[n.toNat].H lv[n.toNat].ao lv[n.toNat].B.length lv[n.toNat].cap M
    refine Fv.enter (E := [(0, _), (1, _)]) Try.func35 rfl Try.ntmps35 rfl rfl fun w0 => ?_
    repeat' (first | (refine WL.p rfl rfl rfl rfl rfl ?_) | (refine WL.nil ?_) | (refine R.region ?_) | (refine R.seq ?_) | (refine WL.i64 rfl rfl rfl rfl (by omega) ?_) | (refine WL.lb rfl rfl rfl rfl rfl rfl (by repeat constructor) (by rfl) ?_) | (refine WL.yes rfl rfl rfl rfl ?_) | (refine WL.no rfl rfl rfl rfl rfl rfl rfl ?_) | (refine R.block ?_) | (refine R.blk ?_) | (refine R.skip ?_) | (refine R.exit rfl ?_) | (refine R.condT rfl ?_) | (refine R.condF rfl ?_) | (refine R.ret ?_) | (refine WL.al rfl rfl rfl rfl rfl rfl ?_; intro b) | (refine WL.bx rfl rfl rfl rfl rfl rfl ?_; intro b) | (refine WL.sb rfl rfl rfl rfl rfl rfl rfl rfl rfl (by repeat constructor) (by rfl) ?_) | (refine WL.bd rfl rfl rfl rfl rfl ?_) | (refine WL.bs rfl rfl rfl rfl rfl rfl rfl rfl ?_; intro g) | (refine R.scope ?_) | (refine R.label ?_) | (refine WL.ix (off0 + n.toNat * 3) rfl rfl rfl rfl rfl rfl rfl rfl rfl (by omega) (by omega) (by show _ + _ * 3 = _; omega) ?_) | (refine WL.lm rfl rfl rfl rfl rfl rfl hlv (by rfl) ?_) | (refine WL.cv Try.call58 rfl rfl rfl rfl rfl rfl rfl rfl hnn ?_) | ((refine WL.gdP rfl rfl rfl rfl ?_ ?_) <;> intro hg <;> (try (exfalso; omega))) | ((refine WL.gdN rfl rfl rfl rfl ?_ ?_) <;> intro hg <;> (try (exfalso; omega))) | ((refine WL.gd rfl rfl rfl rfl ?_ ?_) <;> intro hg) | ((refine R.condP rfl ?_ ?_) <;> intro hc <;> (try (exfalso; omega))) | ((refine R.condN rfl ?_ ?_) <;> intro hc <;> (try (exfalso; omega))) | ((refine R.cond rfl ?_ ?_) <;> intro hc))
    refine R.retV rfl rfl fun _ => ?_
    rfl
  · have hv : thereP (lv.map RL.p) n = false := by
      unfold thereP
      rw [Bool.and_eq_false_iff]
      rcases Decidable.not_and_iff_or_not.1 h with h | h
      · left; simp; omega
      · right; rw [List.getElem?_eq_none (by rw [List.length_map]; omega)]
    rw [hv]
    refine Fv.enter (E := [(0, _), (1, _)]) Try.func35 rfl Try.ntmps35 rfl rfl fun w0 => ?_
    repeat' (first | (refine WL.p rfl rfl rfl rfl rfl ?_) | (refine WL.nil ?_) | (refine R.region ?_) | (refine R.seq ?_) | (refine WL.i64 rfl rfl rfl rfl (by omega) ?_) | (refine WL.lb rfl rfl rfl rfl rfl rfl (by repeat constructor) (by rfl) ?_) | (refine WL.yes rfl rfl rfl rfl ?_) | (refine WL.no rfl rfl rfl rfl rfl rfl rfl ?_) | (refine R.block ?_) | (refine R.blk ?_) | (refine R.skip ?_) | (refine R.exit rfl ?_) | (refine R.condT rfl ?_) | (refine R.condF rfl ?_) | (refine R.ret ?_) | (refine WL.al rfl rfl rfl rfl rfl rfl ?_; intro b) | (refine WL.bx rfl rfl rfl rfl rfl rfl ?_; intro b) | (refine WL.sb rfl rfl rfl rfl rfl rfl rfl rfl rfl (by repeat constructor) (by rfl) ?_) | (refine WL.bd rfl rfl rfl rfl rfl ?_) | (refine WL.bs rfl rfl rfl rfl rfl rfl rfl rfl ?_; intro g) | (refine R.scope ?_) | (refine R.label ?_) | ((refine WL.gdP rfl rfl rfl rfl ?_ ?_) <;> intro hg <;> (try (exfalso; omega))) | ((refine WL.gdN rfl rfl rfl rfl ?_ ?_) <;> intro hg <;> (try (exfalso; omega))) | ((refine WL.gd rfl rfl rfl rfl ?_ ?_) <;> intro hg) | ((refine R.condP rfl ?_ ?_) <;> intro hc <;> (try (exfalso; omega))) | ((refine R.condN rfl ?_ ?_) <;> intro hc <;> (try (exfalso; omega))) | ((refine R.cond rfl ?_ ?_) <;> intro hc))
    all_goals (refine R.retV rfl rfl fun _ => ?_; rfl)

theorem cut {a b : Prop} (h1 : a → b) (h2 : a) : b := h1 h2
/-- A pixel of a level, as a slice of its bytes. -/
def pxAt (ao : Option Addr) (cap W sz : Nat) (B : List UInt8) (a b : Nat) : PX := ⟨if cap = (b * W + a) * sz then ao else ao.map (·.add ((b * W + a) * sz * 1)), cap - (b * W + a) * sz, pix W B sz a b⟩
theorem pxAt_ok {M : Mem} {ao : Option Addr} {cap W H sz : Nat} {B : List UInt8} {a b : Nat} (hs : SlM M ao B.length cap (u8s B)) (hB : B.length = W * H * sz) (ha : a < W) (hb : b < H) : (pxAt ao cap W sz B a b).ok M sz := by
  obtain ⟨hp, hfit⟩ := pix_length hB ha hb
  have hcap := hs.1
  refine ⟨?_, hp⟩
  have := hs.cut (size := 1) (l := (b * W + a) * sz) (hh := (b * W + a) * sz + sz) (m := cap) (by omega) (by omega) (by omega)
  rw [u8s_drop, u8s_take] at this
  simp only [pxAt]
  rw [hp]
  simpa only [pix, Nat.mul_one, Nat.add_sub_cancel_left] using this
def fourK (ao : Option Addr) (cap W H sz : Nat) (B : List UInt8) (x y k : Nat) : List PX := (List.range k).filterMap fun k => if k % 2 < two W ∧ k / 2 < two H then some (pxAt ao cap W sz B (2 * x + k % 2) (2 * y + k / 2)) else none
theorem fourK_B (ao : Option Addr) (cap W H sz : Nat) (B : List UInt8) (x y : Nat) : (fourK ao cap W H sz B x y 4).map PX.B = four W H B sz x y := by
  rw [← four_four, fourK, List.map_filterMap]
  congr 1
  funext k
  split <;> simp [pxAt]
theorem fourK_yes {ao : Option Addr} {cap W H sz : Nat} {B : List UInt8} {x y k : Nat} (h : k % 2 < two W ∧ k / 2 < two H) : fourK ao cap W H sz B x y (k + 1) = fourK ao cap W H sz B x y k ++ [pxAt ao cap W sz B (2 * x + k % 2) (2 * y + k / 2)] := by
  rw [fourK, List.range_succ, List.filterMap_append]; simp [h]; rfl
theorem fourK_no {ao : Option Addr} {cap W H sz : Nat} {B : List UInt8} {x y k : Nat} (h : ¬ (k % 2 < two W ∧ k / 2 < two H)) : fourK ao cap W H sz B x y (k + 1) = fourK ao cap W H sz B x y k := by
  rw [fourK, List.range_succ, List.filterMap_append]; simp [h]; rfl
theorem fourK_len (ao : Option Addr) (cap W H sz : Nat) (B : List UInt8) (x y k : Nat) : (fourK ao cap W H sz B x y k).length ≤ k := by
  unfold fourK
  exact Nat.le_trans (List.length_filterMap_le _ _) (by rw [List.length_range]; exact Nat.le_refl _)
theorem fourK_ok {M : Mem} {ao : Option Addr} {cap W H sz : Nat} {B : List UInt8} {x y : Nat} (hs : SlM M ao B.length cap (u8s B)) (hB : B.length = W * H * sz) (hx : 2 * x + two W ≤ W) (hy : 2 * y + two H ≤ H) (k : Nat) : ∀ p ∈ fourK ao cap W H sz B x y k, p.ok M sz := by
  intro p hp
  obtain ⟨k, _, h⟩ := List.mem_filterMap.1 hp
  split at h
  · cases h
    exact pxAt_ok hs hB (by omega) (by omega)
  · cases h
theorem four_len (W H : Nat) (B : List UInt8) (sz x y : Nat) : (four W H B sz x y).length = two H * two W := by
  have := congrArg List.length (numsB_four W H B sz x y)
  rw [numsB_len, List.length_map] at this
  omega

theorem rgenerate_core (f : Int) (ao : Option Addr) (cap : Nat) (lv : List RL) (ws wt mn mg : Int) (M : Mem) (hsl : SlM M ao lv.length cap (lv.flatMap RL.cells)) (hlvs : ∀ r ∈ lv, r.ok M) (hlen0 : lv.length ≤ 4611686018427387904) (hby : ∀ r ∈ lv, r.B.length ≤ 140737488355328) :
    Fn Try.prog 13 [.agg #[.int .i64 f, .slice ao lv.length cap, .int .i64 ws, .int .i64 wt, .int .i64 mn, .int .i64 mg]] [] M (ResPost (genP ⟨f, lv.map RL.p, ws, wt, mn, mg⟩) M) := by
  have hc := right_core f ao cap lv ws wt mn mg M hsl hlen0
  rw [rightB_p] at hc
  change Fv _ _ _ _ (.bool (rightP ⟨f, lv.map RL.p, ws, wt, mn, mg⟩)) at hc
  unfold genP
  cases hr : rightP ⟨f, lv.map RL.p, ws, wt, mn, mg⟩ with
  | false =>
    rw [hr] at hc
    refine Fn.enter (E := [(0, _)]) Try.func13 rfl Try.ntmps13 rfl rfl fun w0 => ?_
    repeat' (first | (refine WL.p rfl rfl rfl rfl rfl ?_) | (refine WL.nil ?_) | (refine R.region ?_) | (refine R.seq ?_) | (refine WL.i64 rfl rfl rfl rfl (by omega) ?_) | (refine WL.lb rfl rfl rfl rfl rfl rfl (by repeat constructor) (by rfl) ?_) | (refine WL.yes rfl rfl rfl rfl ?_) | (refine WL.no rfl rfl rfl rfl rfl rfl rfl ?_) | (refine R.block ?_) | (refine R.blk ?_) | (refine R.skip ?_) | (refine R.exit rfl ?_) | (refine R.condT rfl ?_) | (refine R.condF rfl ?_) | (refine R.ret ?_) | (refine WL.al rfl rfl rfl rfl rfl rfl ?_; intro b) | (refine WL.bx rfl rfl rfl rfl rfl rfl ?_; intro b) | (refine WL.sb rfl rfl rfl rfl rfl rfl rfl rfl rfl (by repeat constructor) (by rfl) ?_) | (refine WL.bd rfl rfl rfl rfl rfl ?_) | (refine WL.bs rfl rfl rfl rfl rfl rfl rfl rfl ?_; intro g) | (refine R.scope ?_) | (refine R.label ?_) | (refine WL.cv Try.call34 rfl rfl rfl rfl rfl rfl rfl rfl hc ?_) | ((refine WL.gdP rfl rfl rfl rfl ?_ ?_) <;> intro hg <;> (try (exfalso; omega))) | ((refine WL.gdN rfl rfl rfl rfl ?_ ?_) <;> intro hg <;> (try (exfalso; omega))) | ((refine WL.gd rfl rfl rfl rfl ?_ ?_) <;> intro hg) | ((refine R.condP rfl ?_ ?_) <;> intro hc <;> (try (exfalso; omega))) | ((refine R.condN rfl ?_ ?_) <;> intro hc <;> (try (exfalso; omega))) | ((refine R.cond rfl ?_ ?_) <;> intro hc))
    refine R.retCT rfl rfl rfl rfl (by repeat constructor) (by rfl) (List.nil_sublist _) fun _ => ⟨rfl, rfl⟩
  | true =>
    rw [hr] at hc
    have R0 := RightP.of hr
    have hth := there_core f ao cap lv ws wt mn mg 0 M hsl
    rw [if_pos rfl]
    cases lv with
    | nil =>
      refine Fn.enter (E := [(0, _)]) Try.func13 rfl Try.ntmps13 rfl rfl fun w0 => ?_
      repeat' (first | (refine WL.p rfl rfl rfl rfl rfl ?_) | (refine WL.nil ?_) | (refine R.region ?_) | (refine R.seq ?_) | (refine WL.i64 rfl rfl rfl rfl (by omega) ?_) | (refine WL.lb rfl rfl rfl rfl rfl rfl (by repeat constructor) (by rfl) ?_) | (refine WL.yes rfl rfl rfl rfl ?_) | (refine WL.no rfl rfl rfl rfl rfl rfl rfl ?_) | (refine R.block ?_) | (refine R.blk ?_) | (refine R.skip ?_) | (refine R.exit rfl ?_) | (refine R.condT rfl ?_) | (refine R.condF rfl ?_) | (refine R.ret ?_) | (refine WL.al rfl rfl rfl rfl rfl rfl ?_; intro b) | (refine WL.bx rfl rfl rfl rfl rfl rfl ?_; intro b) | (refine WL.sb rfl rfl rfl rfl rfl rfl rfl rfl rfl (by repeat constructor) (by rfl) ?_) | (refine WL.bd rfl rfl rfl rfl rfl ?_) | (refine WL.bs rfl rfl rfl rfl rfl rfl rfl rfl ?_; intro g) | (refine R.scope ?_) | (refine R.label ?_) | (refine WL.cv Try.call34 rfl rfl rfl rfl rfl rfl rfl rfl hc ?_) | (refine WL.cv Try.call35 rfl rfl rfl rfl rfl rfl rfl rfl hth ?_) | ((refine WL.gdP rfl rfl rfl rfl ?_ ?_) <;> intro hg <;> (try (exfalso; omega))) | ((refine WL.gdN rfl rfl rfl rfl ?_ ?_) <;> intro hg <;> (try (exfalso; omega))) | ((refine WL.gd rfl rfl rfl rfl ?_ ?_) <;> intro hg) | ((refine R.condP rfl ?_ ?_) <;> intro hc <;> (try (exfalso; omega))) | ((refine R.condN rfl ?_ ?_) <;> intro hc <;> (try (exfalso; omega))) | ((refine R.cond rfl ?_ ?_) <;> intro hc))
      refine R.retCT rfl rfl rfl rfl (by repeat constructor) (by rfl) (List.nil_sublist _) fun _ => ⟨rfl, rfl⟩
    | cons r0 lt =>
      have hlen : (r0 :: lt).length ≤ 7 := by have := R0.len; rwa [List.length_map] at this
      have hl1 : 1 ≤ (r0 :: lt).length := by simp
      obtain ⟨b0, off0, rfl, hcl⟩ := hsl.some (by omega)
      have hlv : Cells M b0 (off0 + 0 * 3) r0.cells := hcl.lvl (k := 0) (by omega)
      have hlW := hlv.seg 0 1
      have hlH := hlv.seg 1 1
      have hr0 : r0.ok M := hlvs r0 (List.Mem.head _)
      simp only [List.map_cons]
      have hthv : thereP ((r0 :: lt).map RL.p) 0 = !noneP r0.p := by simp [thereP]
      rw [hthv] at hth
      cases hn : noneP r0.p with
      | true =>
        rw [hn] at hth
        rw [if_pos rfl]
        refine Fn.enter (E := [(0, _)]) Try.func13 rfl Try.ntmps13 rfl rfl fun w0 => ?_
        repeat' (first | (refine WL.p rfl rfl rfl rfl rfl ?_) | (refine WL.nil ?_) | (refine R.region ?_) | (refine R.seq ?_) | (refine WL.i64 rfl rfl rfl rfl (by omega) ?_) | (refine WL.lb rfl rfl rfl rfl rfl rfl (by repeat constructor) (by rfl) ?_) | (refine WL.yes rfl rfl rfl rfl ?_) | (refine WL.no rfl rfl rfl rfl rfl rfl rfl ?_) | (refine R.block ?_) | (refine R.blk ?_) | (refine R.skip ?_) | (refine R.exit rfl ?_) | (refine R.condT rfl ?_) | (refine R.condF rfl ?_) | (refine R.ret ?_) | (refine WL.al rfl rfl rfl rfl rfl rfl ?_; intro b) | (refine WL.bx rfl rfl rfl rfl rfl rfl ?_; intro b) | (refine WL.sb rfl rfl rfl rfl rfl rfl rfl rfl rfl (by repeat constructor) (by rfl) ?_) | (refine WL.bd rfl rfl rfl rfl rfl ?_) | (refine WL.bs rfl rfl rfl rfl rfl rfl rfl rfl ?_; intro g) | (refine R.scope ?_) | (refine R.label ?_) | (refine WL.cv Try.call34 rfl rfl rfl rfl rfl rfl rfl rfl hc ?_) | (refine WL.cv Try.call35 rfl rfl rfl rfl rfl rfl rfl rfl hth ?_) | ((refine WL.gdP rfl rfl rfl rfl ?_ ?_) <;> intro hg <;> (try (exfalso; omega))) | ((refine WL.gdN rfl rfl rfl rfl ?_ ?_) <;> intro hg <;> (try (exfalso; omega))) | ((refine WL.gd rfl rfl rfl rfl ?_ ?_) <;> intro hg) | ((refine R.condP rfl ?_ ?_) <;> intro hc <;> (try (exfalso; omega))) | ((refine R.condN rfl ?_ ?_) <;> intro hc <;> (try (exfalso; omega))) | ((refine R.cond rfl ?_ ?_) <;> intro hc))
        refine R.retCT rfl rfl rfl rfl (by repeat constructor) (by rfl) (List.nil_sublist _) fun _ => ⟨rfl, rfl⟩
      | false =>
        rw [hn] at hth
        obtain ⟨w1, w2, h1, h2, hB⟩ := R0.lv r0.p (List.Mem.head _) hn
        obtain ⟨f1, f7⟩ := R0.f (by show 0 < (List.map RL.p (r0 :: lt)).length; simp)
        obtain ⟨W, hW⟩ : ∃ W : Nat, r0.W = W := ⟨r0.W.toNat, by have : 1 ≤ r0.W := w1; omega⟩
        obtain ⟨H, hH⟩ : ∃ H : Nat, r0.H = H := ⟨r0.H.toNat, by have : 1 ≤ r0.H := h1; omega⟩
        obtain ⟨rW, rH, ra, rc, rB⟩ := r0
        simp only at hW hH
        subst hW hH
        simp only [RL.p] at w1 w2 h1 h2 hB
        simp only [RL.p, Int.toNat_natCast, Bool.false_eq_true, if_false]
        have pW := rpower_fn W (by omega) (by omega) M
        have pH := rpower_fn H (by omega) (by omega) M
        by_cases hpw : powB W = false
        · rw [hpw] at pW
          simp only [hpw, Bool.false_and, Bool.false_eq_true, if_false]
          refine Fn.enter (E := [(0, _)]) Try.func13 rfl Try.ntmps13 rfl rfl fun w0 => ?_
          repeat' (first | (refine WL.p rfl rfl rfl rfl rfl ?_) | (refine WL.nil ?_) | (refine R.region ?_) | (refine R.seq ?_) | (refine WL.i64 rfl rfl rfl rfl (by omega) ?_) | (refine WL.lb rfl rfl rfl rfl rfl rfl (by repeat constructor) (by rfl) ?_) | (refine WL.yes rfl rfl rfl rfl ?_) | (refine WL.no rfl rfl rfl rfl rfl rfl rfl ?_) | (refine R.block ?_) | (refine R.blk ?_) | (refine R.skip ?_) | (refine R.exit rfl ?_) | (refine R.condT rfl ?_) | (refine R.condF rfl ?_) | (refine R.ret ?_) | (refine WL.al rfl rfl rfl rfl rfl rfl ?_; intro b) | (refine WL.bx rfl rfl rfl rfl rfl rfl ?_; intro b) | (refine WL.sb rfl rfl rfl rfl rfl rfl rfl rfl rfl (by repeat constructor) (by rfl) ?_) | (refine WL.bd rfl rfl rfl rfl rfl ?_) | (refine WL.bs rfl rfl rfl rfl rfl rfl rfl rfl ?_; intro g) | (refine R.scope ?_) | (refine R.label ?_) | (refine WL.cv Try.call34 rfl rfl rfl rfl rfl rfl rfl rfl hc ?_) | (refine WL.cv Try.call35 rfl rfl rfl rfl rfl rfl rfl rfl hth ?_) | (refine WL.ix (off0 + 0 * 3) rfl rfl rfl rfl rfl rfl rfl rfl rfl (by omega) (by omega) (by show _ + _ * 3 = _; omega) ?_) | (refine WL.lm rfl rfl rfl rfl rfl rfl hlW (by rfl) ?_) | (refine WL.cv Try.call36 rfl rfl rfl rfl rfl rfl rfl rfl pW ?_) | ((refine WL.gdP rfl rfl rfl rfl ?_ ?_) <;> intro hg <;> (try (exfalso; omega))) | ((refine WL.gdN rfl rfl rfl rfl ?_ ?_) <;> intro hg <;> (try (exfalso; omega))) | ((refine WL.gd rfl rfl rfl rfl ?_ ?_) <;> intro hg) | ((refine R.condP rfl ?_ ?_) <;> intro hc <;> (try (exfalso; omega))) | ((refine R.condN rfl ?_ ?_) <;> intro hc <;> (try (exfalso; omega))) | ((refine R.cond rfl ?_ ?_) <;> intro hc))
          refine R.retCT rfl rfl rfl rfl (by repeat constructor) (by rfl) (List.nil_sublist _) fun _ => ⟨rfl, rfl⟩
        · have hpw : powB W = true := by simpa using hpw
          rw [hpw] at pW
          by_cases hph : powB H = false
          · rw [hph] at pH
            simp only [hph, Bool.and_false, Bool.false_eq_true, if_false]
            refine Fn.enter (E := [(0, _)]) Try.func13 rfl Try.ntmps13 rfl rfl fun w0 => ?_
            repeat' (first | (refine WL.p rfl rfl rfl rfl rfl ?_) | (refine WL.nil ?_) | (refine R.region ?_) | (refine R.seq ?_) | (refine WL.i64 rfl rfl rfl rfl (by omega) ?_) | (refine WL.lb rfl rfl rfl rfl rfl rfl (by repeat constructor) (by rfl) ?_) | (refine WL.yes rfl rfl rfl rfl ?_) | (refine WL.no rfl rfl rfl rfl rfl rfl rfl ?_) | (refine R.block ?_) | (refine R.blk ?_) | (refine R.skip ?_) | (refine R.exit rfl ?_) | (refine R.condT rfl ?_) | (refine R.condF rfl ?_) | (refine R.ret ?_) | (refine WL.al rfl rfl rfl rfl rfl rfl ?_; intro b) | (refine WL.bx rfl rfl rfl rfl rfl rfl ?_; intro b) | (refine WL.sb rfl rfl rfl rfl rfl rfl rfl rfl rfl (by repeat constructor) (by rfl) ?_) | (refine WL.bd rfl rfl rfl rfl rfl ?_) | (refine WL.bs rfl rfl rfl rfl rfl rfl rfl rfl ?_; intro g) | (refine R.scope ?_) | (refine R.label ?_) | (refine WL.cv Try.call34 rfl rfl rfl rfl rfl rfl rfl rfl hc ?_) | (refine WL.cv Try.call35 rfl rfl rfl rfl rfl rfl rfl rfl hth ?_) | (refine WL.ix (off0 + 0 * 3) rfl rfl rfl rfl rfl rfl rfl rfl rfl (by omega) (by omega) (by show _ + _ * 3 = _; omega) ?_) | (refine WL.lm rfl rfl rfl rfl rfl rfl hlW (by rfl) ?_) | (refine WL.lm rfl rfl rfl rfl rfl rfl hlH (by rfl) ?_) | (refine WL.cv Try.call36 rfl rfl rfl rfl rfl rfl rfl rfl pW ?_) | (refine WL.cv Try.call36 rfl rfl rfl rfl rfl rfl rfl rfl pH ?_) | ((refine WL.gdP rfl rfl rfl rfl ?_ ?_) <;> intro hg <;> (try (exfalso; omega))) | ((refine WL.gdN rfl rfl rfl rfl ?_ ?_) <;> intro hg <;> (try (exfalso; omega))) | ((refine WL.gd rfl rfl rfl rfl ?_ ?_) <;> intro hg) | ((refine R.condP rfl ?_ ?_) <;> intro hc <;> (try (exfalso; omega))) | ((refine R.condN rfl ?_ ?_) <;> intro hc <;> (try (exfalso; omega))) | ((refine R.cond rfl ?_ ?_) <;> intro hc))
            refine R.retCT rfl rfl rfl rfl (by repeat constructor) (by rfl) (List.nil_sublist _) fun _ => ⟨rfl, rfl⟩
          · have hph : powB H = true := by simpa using hph
            rw [hph] at pH
            simp only [hpw, hph, Bool.and_true, if_true]
            have hcap := hsl.1
            have hBn : rB.length = W * H * szOf f := by
              obtain ⟨_, _, _, _, _, hsz⟩ := bits_ok f ⟨f1, f7⟩
              have : ((rB.length : Nat) : Int) = ((W * H * szOf f : Nat) : Int) := by rw [hB, hsz]; push_cast; rfl
              exact Int.ofNat.inj this
            obtain ⟨_, hz1, hz4, _, _, hszI⟩ := bits_ok f ⟨f1, f7⟩
            have hcopy := copy_core f (some ⟨b0, off0, none⟩) cap (⟨W, H, ra, rc, rB⟩ :: lt) ws wt mn mg M hsl hlvs (by omega) hby
            refine Fn.enter (E := [(0, _)]) Try.func13 rfl Try.ntmps13 rfl rfl fun w0 => ?_
            repeat' (first | (refine WL.p rfl rfl rfl rfl rfl ?_) | (refine WL.nil ?_) | (refine R.region ?_) | (refine R.seq ?_) | (refine WL.i64 rfl rfl rfl rfl (by omega) ?_) | (refine WL.lb rfl rfl rfl rfl rfl rfl (by repeat constructor) (by rfl) ?_) | (refine WL.yes rfl rfl rfl rfl ?_) | (refine WL.no rfl rfl rfl rfl rfl rfl rfl ?_) | (refine R.block ?_) | (refine R.blk ?_) | (refine R.skip ?_) | (refine R.exit rfl ?_) | (refine R.condT rfl ?_) | (refine R.condF rfl ?_) | (refine R.ret ?_) | (refine WL.al rfl rfl rfl rfl rfl rfl ?_; intro b) | (refine WL.bx rfl rfl rfl rfl rfl rfl ?_; intro b) | (refine WL.sb rfl rfl rfl rfl rfl rfl rfl rfl rfl (by repeat constructor) (by rfl) ?_) | (refine WL.bd rfl rfl rfl rfl rfl ?_) | (refine WL.bs rfl rfl rfl rfl rfl rfl rfl rfl ?_; intro g) | (refine R.scope ?_) | (refine R.label ?_) | (refine WL.cv Try.call34 rfl rfl rfl rfl rfl rfl rfl rfl hc ?_) | (refine WL.cv Try.call35 rfl rfl rfl rfl rfl rfl rfl rfl hth ?_) | (refine WL.ix (off0 + 0 * 3) rfl rfl rfl rfl rfl rfl rfl rfl rfl (by omega) (by omega) (by show _ + _ * 3 = _; omega) ?_) | (refine WL.lm rfl rfl rfl rfl rfl rfl hlW (by rfl) ?_) | (refine WL.lm rfl rfl rfl rfl rfl rfl hlH (by rfl) ?_) | (refine WL.cv Try.call36 rfl rfl rfl rfl rfl rfl rfl rfl pW ?_) | (refine WL.cv Try.call36 rfl rfl rfl rfl rfl rfl rfl rfl pH ?_) | ((refine WL.gdP rfl rfl rfl rfl ?_ ?_) <;> intro hg <;> (try (exfalso; omega))) | ((refine WL.gdN rfl rfl rfl rfl ?_ ?_) <;> intro hg <;> (try (exfalso; omega))) | ((refine WL.gd rfl rfl rfl rfl ?_ ?_) <;> intro hg) | ((refine R.condP rfl ?_ ?_) <;> intro hc <;> (try (exfalso; omega))) | ((refine R.condN rfl ?_ ?_) <;> intro hc <;> (try (exfalso; omega))) | ((refine R.cond rfl ?_ ?_) <;> intro hc))
            refine WL.call Try.call11 rfl rfl rfl rfl rfl rfl rfl rfl (Sin := []) rfl hcopy ?_
            rintro v S1 M1 hm ⟨go, gc, ls, rfl, rfl, hfr, hp⟩
            have hlsl : ls.length = (⟨W, H, ra, rc, rB⟩ :: lt : List RL).length := by have := congrArg List.length hp; simpa using this
            cases ls with
            | nil => simp at hlsl
            | cons o0 lo =>
              have ho0 : o0.p = (↑W, ↑H, rB) := by have := congrArg List.head? hp; simpa [RL.p] using this
              refine WL.rowFact (List.Mem.head _) (fun hrl hrc hrn => ?_)
              obtain ⟨g, rfl⟩ : ∃ g, go = some g := by
                cases go with
                | none => have := (hrn rfl).1; simp at this
                | some g => exact ⟨g, rfl⟩
              refine WL.shrink 1 Upd.here (by simp) ?_
              have hgc : 1 ≤ gc := by have : 1 ≤ (o0 :: lo).length := by simp
                                      omega
              have htk : ((o0 :: lo).flatMap OL.cells).take (1 * 3) = o0.cells := by simp [OL.cells]
              rw [htk]
              obtain ⟨oW, oH, og, oc, oB⟩ := o0
              simp only [OL.p, Prod.mk.injEq] at ho0
              obtain ⟨rfl, rfl, rfl⟩ := ho0
              repeat' (first | (refine WL.p rfl rfl rfl rfl rfl ?_) | (refine WL.nil ?_) | (refine R.region ?_) | (refine R.seq ?_) | (refine WL.i64 rfl rfl rfl rfl (by omega) ?_) | (refine WL.lb rfl rfl rfl rfl rfl rfl (by repeat constructor) (by rfl) ?_) | (refine WL.yes rfl rfl rfl rfl ?_) | (refine WL.no rfl rfl rfl rfl rfl rfl rfl ?_) | (refine R.block ?_) | (refine R.blk ?_) | (refine R.skip ?_) | (refine R.exit rfl ?_) | (refine R.condT rfl ?_) | (refine R.condF rfl ?_) | (refine R.ret ?_) | (refine WL.al rfl rfl rfl rfl rfl rfl ?_; intro b) | (refine WL.bx rfl rfl rfl rfl rfl rfl ?_; intro b) | (refine WL.sb rfl rfl rfl rfl rfl rfl rfl rfl rfl (by repeat constructor) (by rfl) ?_) | (refine WL.bd rfl rfl rfl rfl rfl ?_) | (refine WL.bs rfl rfl rfl rfl rfl rfl rfl rfl ?_; intro g) | (refine R.scope ?_) | (refine R.label ?_) | (refine WL.slTo 1 rfl rfl rfl rfl rfl rfl rfl rfl rfl hgc ?_) | (refine WL.cv Try.call37 rfl rfl rfl rfl rfl rfl rfl rfl ((rsize_fn _ _).same (congrArg (Value.int .i64) hszI)) ?_) | (refine WL.ix (0 + 0 * 3) rfl rfl rfl rfl rfl rfl rfl rfl rfl (by omega) (by omega) (by show _ + _ * 3 = _; omega) ?_) | (refine WL.lr 0 0 rfl rfl rfl rfl rfl rfl (by repeat constructor) (ys := OL.cells _) (by intro i u hi; simpa using hi) (by rfl) ?_) | ((refine WL.gdP rfl rfl rfl rfl ?_ ?_) <;> intro hg <;> (try (exfalso; omega))) | ((refine WL.gdN rfl rfl rfl rfl ?_ ?_) <;> intro hg <;> (try (exfalso; omega))) | ((refine WL.gd rfl rfl rfl rfl ?_ ?_) <;> intro hg) | ((refine R.condP rfl ?_ ?_) <;> intro hc <;> (try (exfalso; omega))) | ((refine R.condN rfl ?_ ?_) <;> intro hc <;> (try (exfalso; omega))) | ((refine R.cond rfl ?_ ?_) <;> intro hc))
              rename_i b1 b2
              clear hr R0 hc hth hthv hlv hlW hlH hcl hr0 hcopy hby hlvs pW pH hlen0 hl1 hlen hn hB
              have hgs : GS.ok f M1 M ((↑W, ↑H, oB) :: gens f W H oB) ⟨W, H, oB, og.map fun g => ⟨g, 0, none⟩, oc, [⟨W, H, og, oc, oB⟩], some g, gc, M1⟩ :=
                { le := Mle.refl _, sl := (hfr.2 _ (List.Mem.head _)).1.sl, len := hBn, w := (show 1 ≤ W ∧ W ≤ 64 by omega), h := (show 1 ≤ H ∧ H ≤ 64 by omega), pw := hpw, ph := hph, fr := ⟨hfr.1.sublist (List.Sublist.filterMap _ (List.Sublist.cons_cons _ (List.nil_sublist _))), fun o ho => hfr.2 o (by rw [List.mem_singleton.1 ho]; exact List.Mem.head _)⟩, goal := rfl, few := (show 1 + (W - 1) + (H - 1) ≤ 200 by omega) }
              refine R.perm (List.Perm.swap _ _ _) ?_
              refine R.loop (α := Nat × GS) (fun z => [(5, .pointer (some ⟨z.1, 0, none⟩)), (1, .pointer (some ⟨b1, 0, none⟩)), (2, .pointer (some ⟨b2, 0, none⟩)), (4, .int .i64 (szOf f)), (3, .int .i64 0)])
                (fun z => [.row z.2.go z.2.gc 34 3 z.2.ls.length (z.2.ls.flatMap OL.cells), .box z.1 [.int .i64 z.2.W, .int .i64 z.2.H, .slice z.2.ao z.2.B.length z.2.cap] 34, .box b2 [.int .i64 0, .slice none 0 0, .int .i64 0, .int .i64 0, .int .i64 0, .int .i64 0] 24, .box b1 [.int .i64 f, rowV z.2.go z.2.ls.length z.2.gc, .int .i64 ws, .int .i64 wt, .int .i64 mn, .int .i64 mg] 24])
                (fun z => z.2.M) (fun z => GS.ok f M1 M ((↑W, ↑H, oB) :: gens f W H oB) z.2) (fun z => (z.2.W - 1) + (z.2.H - 1)) (b, ⟨W, H, oB, og.map fun g => ⟨g, 0, none⟩, oc, [⟨W, H, og, oc, oB⟩], some g, gc, M1⟩)
                hgs (by repeat (first | refine Sub.cons rfl ?_ | exact Sub.nil _)) ?_ rfl ?_
              · dsimp only
                rw [show [(⟨W, H, og, oc, oB⟩ : OL)].flatMap OL.cells = (⟨W, H, og, oc, oB⟩ : OL).cells from List.append_nil _]
                exact (by first | apply List.Sublist.refl | apply List.nil_sublist | apply List.sublist_cons_self | (repeat (first | apply List.Sublist.refl | apply List.nil_sublist | apply List.Sublist.cons_cons | apply List.Sublist.cons)))
              rintro ⟨b5, W, H, B, ao, cp, ls, go, gc, M2⟩ J ⟨hle, hsl, hBl, hw, hh, hpw, hph, hfr, hgoal, hfew⟩ again
              simp only at hle hsl hBl hw hh hpw hph hfr hgoal hfew
              dsimp only
              generalize hsz : szOf f = sz at *
              by_cases h11 : W = 1 ∧ H = 1
              · rw [gens_end (by omega), List.append_nil] at hgoal
                repeat' (first | (refine WL.p rfl rfl rfl rfl rfl ?_) | (refine WL.nil ?_) | (refine R.region ?_) | (refine R.seq ?_) | (refine WL.i64 rfl rfl rfl rfl (by omega) ?_) | (refine WL.lb rfl rfl rfl rfl rfl rfl (by repeat constructor) (by rfl) ?_) | (refine WL.yes rfl rfl rfl rfl ?_) | (refine WL.no rfl rfl rfl rfl rfl rfl rfl ?_) | (refine R.block ?_) | (refine R.blk ?_) | (refine R.skip ?_) | (refine R.exit rfl ?_) | (refine R.condT rfl ?_) | (refine R.condF rfl ?_) | (refine R.ret ?_) | (refine WL.al rfl rfl rfl rfl rfl rfl ?_; intro b) | (refine WL.bx rfl rfl rfl rfl rfl rfl ?_; intro b) | (refine WL.sb rfl rfl rfl rfl rfl rfl rfl rfl rfl (by repeat constructor) (by rfl) ?_) | (refine WL.bd rfl rfl rfl rfl rfl ?_) | (refine WL.bs rfl rfl rfl rfl rfl rfl rfl rfl ?_; intro g) | (refine R.scope ?_) | (refine R.label ?_) | ((refine WL.gdP rfl rfl rfl rfl ?_ ?_) <;> intro hg <;> (try (exfalso; omega))) | ((refine WL.gdN rfl rfl rfl rfl ?_ ?_) <;> intro hg <;> (try (exfalso; omega))) | ((refine WL.gd rfl rfl rfl rfl ?_ ?_) <;> intro hg) | ((refine R.condP rfl ?_ ?_) <;> intro hc <;> (try (exfalso; omega))) | ((refine R.condN rfl ?_ ?_) <;> intro hc <;> (try (exfalso; omega))) | ((refine R.cond rfl ?_ ?_) <;> intro hc))
                refine R.retCT rfl rfl rfl rfl (by repeat constructor) (by rfl) (S2 := [_]) (List.Sublist.cons_cons _ (List.nil_sublist _)) fun _ => ⟨_, rfl, go, gc, ls, rfl, rfl, hfr, hgoal⟩
              · have nW := nextW_bd hw
                have nH := nextW_bd hh
                have hW2 := powB_even W (by omega) hpw
                have hH2 := powB_even H (by omega) hph
                rw [gens_more (by omega)] at hgoal
                repeat' (first | (refine WL.step rfl rfl rfl (Ev.maxN (a := W / 2) (b := 1) rfl rfl rfl) ?_) | (refine WL.step rfl rfl rfl (Ev.maxN (a := H / 2) (b := 1) rfl rfl rfl) ?_) | (refine WL.step rfl rfl rfl (Ev.quoN (a := W) (b := 2) rfl rfl rfl (by decide) (by omega)) ?_) | (refine WL.step rfl rfl rfl (Ev.quoN (a := H) (b := 2) rfl rfl rfl (by decide) (by omega)) ?_) | (refine WL.p rfl rfl rfl rfl rfl ?_) | (refine WL.nil ?_) | (refine R.region ?_) | (refine R.seq ?_) | (refine WL.i64 rfl rfl rfl rfl (by omega) ?_) | (refine WL.lb rfl rfl rfl rfl rfl rfl (by repeat constructor) (by rfl) ?_) | (refine WL.yes rfl rfl rfl rfl ?_) | (refine WL.no rfl rfl rfl rfl rfl rfl rfl ?_) | (refine R.block ?_) | (refine R.blk ?_) | (refine R.skip ?_) | (refine R.exit rfl ?_) | (refine R.condT rfl ?_) | (refine R.condF rfl ?_) | (refine R.ret ?_) | (refine WL.al rfl rfl rfl rfl rfl rfl ?_; intro b) | (refine WL.bx rfl rfl rfl rfl rfl rfl ?_; intro b) | (refine WL.sb rfl rfl rfl rfl rfl rfl rfl rfl rfl (by repeat constructor) (by rfl) ?_) | (refine WL.bd rfl rfl rfl rfl rfl ?_) | (refine WL.bs rfl rfl rfl rfl rfl rfl rfl rfl ?_; intro g) | (refine R.scope ?_) | (refine R.label ?_) | ((refine WL.gdP rfl rfl rfl rfl ?_ ?_) <;> intro hg <;> (try (exfalso; omega))) | ((refine WL.gdN rfl rfl rfl rfl ?_ ?_) <;> intro hg <;> (try (exfalso; omega))) | ((refine WL.gd rfl rfl rfl rfl ?_ ?_) <;> intro hg) | ((refine R.condP rfl ?_ ?_) <;> intro hc <;> (try (exfalso; omega))) | ((refine R.condN rfl ?_ ?_) <;> intro hc <;> (try (exfalso; omega))) | ((refine R.cond rfl ?_ ?_) <;> intro hc))
                all_goals
                  refine R.addnil 5 1 ?_
                  refine R.loop (α := Nat × Option Nat × Nat) (fun z => [(81, .int .i64 z.1), (80, .int .i64 (nextW H)), (6, .pointer (some ⟨b, 0, none⟩)), (5, .pointer (some ⟨b5, 0, none⟩)), (1, .pointer (some ⟨b1, 0, none⟩)), (2, .pointer (some ⟨b2, 0, none⟩)), (4, .int .i64 sz), (3, .int .i64 0)])
                    (fun z => [.row z.2.1 z.2.2 5 1 (partB sz (bitsOf f) W H B z.1 0).length (u8s (partB sz (bitsOf f) W H B z.1 0)), .box b [.int .i64 (nextW W), .int .i64 (nextW H), rowV z.2.1 (partB sz (bitsOf f) W H B z.1 0).length z.2.2] 34, _, _, _, _])
                    (fun _ => M2) (fun z => z.1 ≤ nextW H) (fun z => nextW H - z.1) (0, none, 0) (Nat.zero_le _) (by repeat (first | refine Sub.cons rfl ?_ | exact Sub.nil _)) (List.Sublist.refl _) rfl ?_
                  rintro ⟨y, g0, c0⟩ J2 hy again2
                  simp only at hy
                  dsimp only
                  repeat (first | (refine WL.p rfl rfl rfl rfl rfl ?_) | (refine WL.nil ?_) | (refine R.region ?_) | (refine R.seq ?_) | (refine WL.i64 rfl rfl rfl rfl (by omega) ?_) | (refine WL.lb rfl rfl rfl rfl rfl rfl (by repeat constructor) (by rfl) ?_) | (refine WL.yes rfl rfl rfl rfl ?_) | (refine WL.no rfl rfl rfl rfl rfl rfl rfl ?_) | (refine R.block ?_) | (refine R.blk ?_) | (refine R.skip ?_) | (refine R.exit rfl ?_) | (refine R.condT rfl ?_) | (refine R.condF rfl ?_) | (refine R.ret ?_) | (refine WL.al rfl rfl rfl rfl rfl rfl ?_; intro b) | (refine WL.bx rfl rfl rfl rfl rfl rfl ?_; intro b) | (refine WL.sb rfl rfl rfl rfl rfl rfl rfl rfl rfl (by repeat constructor) (by rfl) ?_) | (refine WL.bd rfl rfl rfl rfl rfl ?_) | (refine WL.bs rfl rfl rfl rfl rfl rfl rfl rfl ?_; intro g) | (refine R.scope ?_) | (refine R.label ?_))
                  refine R.condP rfl (fun hlt => ?_) (fun hge => ?_)
                  · have hy' : y < nextW H := by omega
                    have hyb := two_side hh.1 hH2 hy'
                    repeat (first | (refine WL.p rfl rfl rfl rfl rfl ?_) | (refine WL.nil ?_) | (refine R.region ?_) | (refine R.seq ?_) | (refine WL.i64 rfl rfl rfl rfl (by omega) ?_) | (refine WL.lb rfl rfl rfl rfl rfl rfl (by repeat constructor) (by rfl) ?_) | (refine WL.yes rfl rfl rfl rfl ?_) | (refine WL.no rfl rfl rfl rfl rfl rfl rfl ?_) | (refine R.block ?_) | (refine R.blk ?_) | (refine R.skip ?_) | (refine R.exit rfl ?_) | (refine R.condT rfl ?_) | (refine R.condF rfl ?_) | (refine R.ret ?_) | (refine WL.al rfl rfl rfl rfl rfl rfl ?_; intro b) | (refine WL.bx rfl rfl rfl rfl rfl rfl ?_; intro b) | (refine WL.sb rfl rfl rfl rfl rfl rfl rfl rfl rfl (by repeat constructor) (by rfl) ?_) | (refine WL.bd rfl rfl rfl rfl rfl ?_) | (refine WL.bs rfl rfl rfl rfl rfl rfl rfl rfl ?_; intro g) | (refine R.scope ?_) | (refine R.label ?_))
                    refine R.loop (α := Nat × Option Nat × Nat) (fun z => [(86, .int .i64 z.1), (85, .int .i64 (nextW W)), (7, .int .i64 y), (81, .int .i64 y), (80, .int .i64 (nextW H)), (6, .pointer (some ⟨b, 0, none⟩)), (5, .pointer (some ⟨b5, 0, none⟩)), (1, .pointer (some ⟨b1, 0, none⟩)), (2, .pointer (some ⟨b2, 0, none⟩)), (4, .int .i64 sz), (3, .int .i64 0)])
                      (fun z => [.row z.2.1 z.2.2 5 1 (partB sz (bitsOf f) W H B y z.1).length (u8s (partB sz (bitsOf f) W H B y z.1)), .box b [.int .i64 (nextW W), .int .i64 (nextW H), rowV z.2.1 (partB sz (bitsOf f) W H B y z.1).length z.2.2] 34, _, _, _, _])
                      (fun _ => M2) (fun z => z.1 ≤ nextW W) (fun z => nextW W - z.1) (0, g0, c0) (Nat.zero_le _) (by repeat (first | refine Sub.cons rfl ?_ | exact Sub.nil _)) (List.Sublist.refl _) rfl ?_
                    rintro ⟨x, go1, co1⟩ J3 hx again3
                    simp only at hx
                    dsimp only
                    repeat (first | (refine WL.p rfl rfl rfl rfl rfl ?_) | (refine WL.nil ?_) | (refine R.region ?_) | (refine R.seq ?_) | (refine WL.i64 rfl rfl rfl rfl (by omega) ?_) | (refine WL.lb rfl rfl rfl rfl rfl rfl (by repeat constructor) (by rfl) ?_) | (refine WL.yes rfl rfl rfl rfl ?_) | (refine WL.no rfl rfl rfl rfl rfl rfl rfl ?_) | (refine R.block ?_) | (refine R.blk ?_) | (refine R.skip ?_) | (refine R.exit rfl ?_) | (refine R.condT rfl ?_) | (refine R.condF rfl ?_) | (refine R.ret ?_) | (refine WL.al rfl rfl rfl rfl rfl rfl ?_; intro b) | (refine WL.bx rfl rfl rfl rfl rfl rfl ?_; intro b) | (refine WL.sb rfl rfl rfl rfl rfl rfl rfl rfl rfl (by repeat constructor) (by rfl) ?_) | (refine WL.bd rfl rfl rfl rfl rfl ?_) | (refine WL.bs rfl rfl rfl rfl rfl rfl rfl rfl ?_; intro g) | (refine R.scope ?_) | (refine R.label ?_))
                    refine R.condP rfl (fun hlt2 => ?_) (fun hge2 => ?_)
                    · have hx' : x < nextW W := by omega
                      have hxb := two_side hw.1 hW2 hx'
                      have tH := two_or H
                      have tW := two_or W
                      repeat (first | (refine WL.p rfl rfl rfl rfl rfl ?_) | (refine WL.nil ?_) | (refine R.region ?_) | (refine R.seq ?_) | (refine WL.i64 rfl rfl rfl rfl (by omega) ?_) | (refine WL.lb rfl rfl rfl rfl rfl rfl (by repeat constructor) (by rfl) ?_) | (refine WL.yes rfl rfl rfl rfl ?_) | (refine WL.no rfl rfl rfl rfl rfl rfl rfl ?_) | (refine R.block ?_) | (refine R.blk ?_) | (refine R.skip ?_) | (refine R.exit rfl ?_) | (refine R.condT rfl ?_) | (refine R.condF rfl ?_) | (refine R.ret ?_) | (refine WL.al rfl rfl rfl rfl rfl rfl ?_; intro b) | (refine WL.bx rfl rfl rfl rfl rfl rfl ?_; intro b) | (refine WL.sb rfl rfl rfl rfl rfl rfl rfl rfl rfl (by repeat constructor) (by rfl) ?_) | (refine WL.bd rfl rfl rfl rfl rfl ?_) | (refine WL.bs rfl rfl rfl rfl rfl rfl rfl rfl ?_; intro g) | (refine R.scope ?_) | (refine R.label ?_))
                      refine R.nilrow 9 32 1 rfl ?_
                      refine R.loop (α := Nat × Option Nat × Nat) (fun z => [(89, .int .i64 z.1), (9, rowV z.2.1 (fourK ao cp W H sz B x y z.1).length z.2.2), (8, .int .i64 x), (86, .int .i64 x), (85, .int .i64 (nextW W)), (7, .int .i64 y), (81, .int .i64 y), (80, .int .i64 (nextW H)), (6, .pointer (some ⟨b, 0, none⟩)), (5, .pointer (some ⟨b5, 0, none⟩)), (1, .pointer (some ⟨b1, 0, none⟩)), (2, .pointer (some ⟨b2, 0, none⟩)), (4, .int .i64 sz), (3, .int .i64 0)])
                        (fun z => [.row z.2.1 z.2.2 32 1 (fourK ao cp W H sz B x y z.1).length ((fourK ao cp W H sz B x y z.1).map PX.v), _, _, _, _, _, _])
                        (fun _ => M2) (fun z => z.1 ≤ 4) (fun z => 4 - z.1) (0, none, 0) (Nat.zero_le _) (by repeat (first | refine Sub.cons rfl ?_ | exact Sub.nil _)) (List.Sublist.refl _) rfl ?_
                      rintro ⟨k, gq, cq⟩ J4 hk again4
                      simp only at hk
                      dsimp only
                      repeat (first | (refine WL.p rfl rfl rfl rfl rfl ?_) | (refine WL.nil ?_) | (refine R.region ?_) | (refine R.seq ?_) | (refine WL.i64 rfl rfl rfl rfl (by omega) ?_) | (refine WL.lb rfl rfl rfl rfl rfl rfl (by repeat constructor) (by rfl) ?_) | (refine WL.yes rfl rfl rfl rfl ?_) | (refine WL.no rfl rfl rfl rfl rfl rfl rfl ?_) | (refine R.block ?_) | (refine R.blk ?_) | (refine R.skip ?_) | (refine R.exit rfl ?_) | (refine R.condT rfl ?_) | (refine R.condF rfl ?_) | (refine R.ret ?_) | (refine WL.al rfl rfl rfl rfl rfl rfl ?_; intro b) | (refine WL.bx rfl rfl rfl rfl rfl rfl ?_; intro b) | (refine WL.sb rfl rfl rfl rfl rfl rfl rfl rfl rfl (by repeat constructor) (by rfl) ?_) | (refine WL.bd rfl rfl rfl rfl rfl ?_) | (refine WL.bs rfl rfl rfl rfl rfl rfl rfl rfl ?_; intro g) | (refine R.scope ?_) | (refine R.label ?_))
                      refine R.condP rfl (fun hlt4 => ?_) (fun hge4 => ?_)
                      · have hkn := fourK_len ao cp W H sz B x y k
                        by_cases hin : k % 2 < two W ∧ k / 2 < two H
                        · have ha : 2 * x + k % 2 < W := by omega
                          have hb : 2 * y + k / 2 < H := by omega
                          obtain ⟨hpl, hpf⟩ := pix_length hBl ha hb
                          have hcap := hsl.1
                          have q1 := mul_bd (a := ((2 * y + k / 2 : Nat) : Int)) (b := (W : Int)) (A := 64) (B := 64) (by omega) (by omega) (by omega) (by omega)
                          have q2 := mul_bd (a := ((2 * y + k / 2 : Nat) : Int) * W + ((2 * x + k % 2 : Nat) : Int)) (b := (sz : Int)) (A := 64 * 64 + 64) (B := 4) (by omega) (by omega) (by omega) (by omega)
                          have q3 := mul_bd (a := ((2 * y + k / 2 : Nat) : Int) * W + ((2 * x + k % 2 : Nat) : Int) + 1) (b := (sz : Int)) (A := 64 * 64 + 65) (B := 4) (by omega) (by omega) (by omega) (by omega)
                          have hlen2 : ((2 * y + k / 2) * W + (2 * x + k % 2) + 1) * sz = ((2 * y + k / 2) * W + (2 * x + k % 2)) * sz + sz := by rw [Nat.add_mul, Nat.one_mul]
                          have hpv : Value.slice (if cp = ((2 * y + k / 2) * W + (2 * x + k % 2)) * sz then ao else ao.map (·.add (((2 * y + k / 2) * W + (2 * x + k % 2)) * sz * 1))) (((2 * y + k / 2) * W + (2 * x + k % 2) + 1) * sz - ((2 * y + k / 2) * W + (2 * x + k % 2)) * sz) (cp - ((2 * y + k / 2) * W + (2 * x + k % 2)) * sz) = (pxAt ao cp W sz B (2 * x + k % 2) (2 * y + k / 2)).v := by
                            rw [hlen2, Nat.add_sub_cancel_left]; simp only [PX.v, pxAt, hpl]
                          repeat' (first | (refine WL.step rfl rfl rfl (Ev.remN (a := k) (b := 2) rfl rfl rfl (by decide)) ?_) | (refine WL.step rfl rfl rfl (Ev.quoN (a := k) (b := 2) rfl rfl rfl (by decide) (by omega)) ?_) | (refine WL.step rfl rfl rfl (Ev.asN (2 * x + k % 2) (Ev.i64 rfl (by omega)) (by omega)) ?_) | (refine WL.step rfl rfl rfl (Ev.asN (2 * y + k / 2) (Ev.i64 rfl (by omega)) (by omega)) ?_) | (refine WL.step rfl rfl rfl (Ev.eqv (Ev.cut (l := ((2 * y + k / 2) * W + (2 * x + k % 2)) * sz) (h := ((2 * y + k / 2) * W + (2 * x + k % 2) + 1) * sz) rfl rfl rfl rfl rfl rfl rfl (by omega) (by omega)) hpv) ?_) | (refine WL.p rfl rfl rfl rfl rfl ?_) | (refine WL.nil ?_) | (refine R.region ?_) | (refine R.seq ?_) | (refine WL.i64 rfl rfl rfl rfl (by omega) ?_) | (refine WL.lb rfl rfl rfl rfl rfl rfl (by repeat constructor) (by rfl) ?_) | (refine WL.yes rfl rfl rfl rfl ?_) | (refine WL.no rfl rfl rfl rfl rfl rfl rfl ?_) | (refine R.block ?_) | (refine R.blk ?_) | (refine R.skip ?_) | (refine R.exit rfl ?_) | (refine R.condT rfl ?_) | (refine R.condF rfl ?_) | (refine R.ret ?_) | (refine WL.al rfl rfl rfl rfl rfl rfl ?_; intro b) | (refine WL.bx rfl rfl rfl rfl rfl rfl ?_; intro b) | (refine WL.sb rfl rfl rfl rfl rfl rfl rfl rfl rfl (by repeat constructor) (by rfl) ?_) | (refine WL.bd rfl rfl rfl rfl rfl ?_) | (refine WL.bs rfl rfl rfl rfl rfl rfl rfl rfl ?_; intro g) | (refine R.scope ?_) | (refine R.label ?_) | ((refine WL.gdP rfl rfl rfl rfl ?_ ?_) <;> intro hg <;> (try (exfalso; omega))) | ((refine WL.gdN rfl rfl rfl rfl ?_ ?_) <;> intro hg <;> (try (exfalso; omega))) | ((refine WL.gd rfl rfl rfl rfl ?_ ?_) <;> intro hg) | ((refine R.condP rfl ?_ ?_) <;> intro hc <;> (try (exfalso; omega))) | ((refine R.condN rfl ?_ ?_) <;> intro hc <;> (try (exfalso; omega))) | ((refine R.cond rfl ?_ ?_) <;> intro hc))
                          refine WL.app (news := [(pxAt ao cp W sz B (2 * x + k % 2) (2 * y + k / 2)).v]) rfl rfl rfl rfl rfl rfl rfl rfl rfl rfl (by repeat constructor) (by intro h; cases h) (Src.ofRow (by repeat constructor)) (by rfl) (allOne_mem rfl) (by omega) (by show (_ + 1) * 24 ≤ _; omega) ?_
                          intro gr cr _
                          have e1 : (fourK ao cp W H sz B x y k).length + 1 = (fourK ao cp W H sz B x y (k + 1)).length := by rw [fourK_yes hin]; simp
                          have e2 : (fourK ao cp W H sz B x y k).map PX.v ++ [(pxAt ao cp W sz B (2 * x + k % 2) (2 * y + k / 2)).v] = (fourK ao cp W H sz B x y (k + 1)).map PX.v := by rw [fourK_yes hin, List.map_append]; rfl
                          repeat (first | (refine WL.p rfl rfl rfl rfl rfl ?_) | (refine WL.nil ?_) | (refine R.region ?_) | (refine R.seq ?_) | (refine WL.i64 rfl rfl rfl rfl (by omega) ?_) | (refine WL.lb rfl rfl rfl rfl rfl rfl (by repeat constructor) (by rfl) ?_) | (refine WL.yes rfl rfl rfl rfl ?_) | (refine WL.no rfl rfl rfl rfl rfl rfl rfl ?_) | (refine R.block ?_) | (refine R.blk ?_) | (refine R.skip ?_) | (refine R.exit rfl ?_) | (refine R.condT rfl ?_) | (refine R.condF rfl ?_) | (refine R.ret ?_) | (refine WL.al rfl rfl rfl rfl rfl rfl ?_; intro b) | (refine WL.bx rfl rfl rfl rfl rfl rfl ?_; intro b) | (refine WL.sb rfl rfl rfl rfl rfl rfl rfl rfl rfl (by repeat constructor) (by rfl) ?_) | (refine WL.bd rfl rfl rfl rfl rfl ?_) | (refine WL.bs rfl rfl rfl rfl rfl rfl rfl rfl ?_; intro g) | (refine R.scope ?_) | (refine R.label ?_))
                          rw [e1, e2]
                          exact again4 (k + 1, gr, cr) _ _ _ (by show k + 1 ≤ 4; omega) (by show 4 - (k + 1) < 4 - k; omega) (by repeat (first | refine Sub.cons rfl ?_ | exact Sub.nil _)) (by first | apply List.Sublist.refl | apply List.nil_sublist | apply List.sublist_cons_self | (repeat (first | apply List.Sublist.refl | apply List.nil_sublist | apply List.Sublist.cons_cons | apply List.Sublist.cons))) rfl
                        · repeat' (first | (refine WL.step rfl rfl rfl (Ev.remN (a := k) (b := 2) rfl rfl rfl (by decide)) ?_) | (refine WL.step rfl rfl rfl (Ev.quoN (a := k) (b := 2) rfl rfl rfl (by decide) (by omega)) ?_) | (refine WL.step rfl rfl rfl (Ev.asN (2 * x + k % 2) (Ev.i64 rfl (by omega)) (by omega)) ?_) | (refine WL.step rfl rfl rfl (Ev.asN (2 * y + k / 2) (Ev.i64 rfl (by omega)) (by omega)) ?_) | (refine WL.p rfl rfl rfl rfl rfl ?_) | (refine WL.nil ?_) | (refine R.region ?_) | (refine R.seq ?_) | (refine WL.i64 rfl rfl rfl rfl (by omega) ?_) | (refine WL.lb rfl rfl rfl rfl rfl rfl (by repeat constructor) (by rfl) ?_) | (refine WL.yes rfl rfl rfl rfl ?_) | (refine WL.no rfl rfl rfl rfl rfl rfl rfl ?_) | (refine R.block ?_) | (refine R.blk ?_) | (refine R.skip ?_) | (refine R.exit rfl ?_) | (refine R.condT rfl ?_) | (refine R.condF rfl ?_) | (refine R.ret ?_) | (refine WL.al rfl rfl rfl rfl rfl rfl ?_; intro b) | (refine WL.bx rfl rfl rfl rfl rfl rfl ?_; intro b) | (refine WL.sb rfl rfl rfl rfl rfl rfl rfl rfl rfl (by repeat constructor) (by rfl) ?_) | (refine WL.bd rfl rfl rfl rfl rfl ?_) | (refine WL.bs rfl rfl rfl rfl rfl rfl rfl rfl ?_; intro g) | (refine R.scope ?_) | (refine R.label ?_) | ((refine WL.gdP rfl rfl rfl rfl ?_ ?_) <;> intro hg <;> (try (exfalso; omega))) | ((refine WL.gdN rfl rfl rfl rfl ?_ ?_) <;> intro hg <;> (try (exfalso; omega))) | ((refine WL.gd rfl rfl rfl rfl ?_ ?_) <;> intro hg) | ((refine R.condP rfl ?_ ?_) <;> intro hc <;> (try (exfalso; omega))) | ((refine R.condN rfl ?_ ?_) <;> intro hc <;> (try (exfalso; omega))) | ((refine R.cond rfl ?_ ?_) <;> intro hc))
                          all_goals
                            rw [← fourK_no (ao := ao) (cap := cp) (sz := sz) (B := B) (x := x) (y := y) hin]
                            exact again4 (k + 1, gq, cq) _ _ _ (by show k + 1 ≤ 4; omega) (by show 4 - (k + 1) < 4 - k; omega) (by repeat (first | refine Sub.cons rfl ?_ | exact Sub.nil _)) (by first | apply List.Sublist.refl | apply List.nil_sublist | apply List.sublist_cons_self | (repeat (first | apply List.Sublist.refl | apply List.nil_sublist | apply List.Sublist.cons_cons | apply List.Sublist.cons))) rfl
                      · obtain rfl : k = 4 := by omega
                        have hB4 := fourK_B ao cp W H sz B x y
                        have hl4 : (fourK ao cp W H sz B x y 4).length = two H * two W := by
                          have := congrArg List.length hB4
                          rwa [List.length_map, four_len] at this
                        have hok := fourK_ok (ao := ao) (cap := cp) hsl hBl hxb hyb 4
                        generalize fourK ao cp W H sz B x y 4 = ps at hB4 hl4 hok ⊢
                        have hps4 : 1 ≤ ps.length ∧ ps.length ≤ 4 := by
                          rcases tH with ⟨h, _⟩ | ⟨h, _⟩ <;> rcases tW with ⟨h', _⟩ | ⟨h', _⟩ <;> rw [h, h'] at hl4 <;> omega
                        have hpl := partB_length sz (bitsOf f) W H B y x
                        have hpb : (y * nextW W + x) * sz ≤ (64 * 64 + 64) * 4 := Nat.mul_le_mul (Nat.add_le_add (Nat.mul_le_mul (by omega) (by omega)) (by omega)) hz4
                        have e1 : (partB sz (bitsOf f) W H B y x).length + sz = (partB sz (bitsOf f) W H B y (x + 1)).length := by rw [partB_succ, List.length_append, meanB_length]
                        have e2 : u8s (partB sz (bitsOf f) W H B y x) ++ u8s (meanB sz (bitsOf f) (ps.map PX.B)) = u8s (partB sz (bitsOf f) W H B y (x + 1)) := by rw [partB_succ, u8s_append, hB4]
                        repeat (first | (refine WL.p rfl rfl rfl rfl rfl ?_) | (refine WL.nil ?_) | (refine R.region ?_) | (refine R.seq ?_) | (refine WL.i64 rfl rfl rfl rfl (by omega) ?_) | (refine WL.lb rfl rfl rfl rfl rfl rfl (by repeat constructor) (by rfl) ?_) | (refine WL.yes rfl rfl rfl rfl ?_) | (refine WL.no rfl rfl rfl rfl rfl rfl rfl ?_) | (refine R.block ?_) | (refine R.blk ?_) | (refine R.skip ?_) | (refine R.exit rfl ?_) | (refine R.condT rfl ?_) | (refine R.condF rfl ?_) | (refine R.ret ?_) | (refine WL.al rfl rfl rfl rfl rfl rfl ?_; intro b) | (refine WL.bx rfl rfl rfl rfl rfl rfl ?_; intro b) | (refine WL.sb rfl rfl rfl rfl rfl rfl rfl rfl rfl (by repeat constructor) (by rfl) ?_) | (refine WL.bd rfl rfl rfl rfl rfl ?_) | (refine WL.bs rfl rfl rfl rfl rfl rfl rfl rfl ?_; intro g) | (refine R.scope ?_) | (refine R.label ?_))
                        refine R.frz (ao := gq) (cap := cq) (by repeat constructor) fun M4 hm4 hrow4 _ => ?_
                        have hmean := mean_fn f ⟨f1, f7⟩ ps hps4.1 hps4.2 (gq.map fun g => ⟨g, 0, none⟩) cq M4 hrow4.sl (fun p hp => ⟨(hok p hp).1.mle hm4, (hok p hp).2.trans hsz.symm⟩)
                        rw [hsz] at hmean
                        have hnl : (u8s (meanB sz (bitsOf f) (ps.map PX.B))).length = sz * 1 := by rw [u8s_length, meanB_length, Nat.mul_one]
                        refine R.draw [.box b1 _ _] (by first | apply List.Sublist.refl | apply List.nil_sublist | apply List.sublist_cons_self | (repeat (first | apply List.Sublist.refl | apply List.nil_sublist | apply List.Sublist.cons_cons | apply List.Sublist.cons))) ?_
                        all_goals (refine RD.tk 0 rfl (by kernel_rfl) (by kernel_rfl) (by kernel_rfl) (.no rfl) rfl rfl (by first | exact Ev.i64 rfl (by omega) | exact Ev.p rfl | exact Ev.loadB rfl rfl rfl (by repeat constructor) (by rfl)) ?_)
                        all_goals (refine RD.tk 2 rfl (by kernel_rfl) (by kernel_rfl) (by kernel_rfl) (.no rfl) rfl rfl (by first | exact Ev.i64 rfl (by omega) | exact Ev.p rfl | exact Ev.loadB rfl rfl rfl (by repeat constructor) (by rfl)) ?_)
                        all_goals (refine RD.tk 3 rfl (by kernel_rfl) (by kernel_rfl) (by kernel_rfl) (.no rfl) rfl rfl (by first | exact Ev.i64 rfl (by omega) | exact Ev.p rfl | exact Ev.loadB rfl rfl rfl (by repeat constructor) (by rfl)) ?_)
                        all_goals (refine RD.tk 4 rfl (by kernel_rfl) (by kernel_rfl) (by kernel_rfl) (.no rfl) rfl rfl (by first | exact Ev.i64 rfl (by omega) | exact Ev.p rfl | exact Ev.loadB rfl rfl rfl (by repeat constructor) (by rfl)) ?_)
                        all_goals (refine RD.two 1 5 (by kernel_rfl) ?_ ?_)
                        all_goals (first | (refine RDi.o1 1 rfl (.no rfl) rfl rfl (by first | exact Ev.i64 rfl (by omega) | exact Ev.p rfl | exact Ev.loadB rfl rfl rfl (by repeat constructor) (by rfl)) ?_) | (refine RDi.o2 5 rfl (.no rfl) (OpW.call rfl rfl rfl rfl rfl Try.call38 rfl rfl (Sin := []) (Sr := _) rfl hmean) ?_; rintro _ _ _ ⟨v, Sout, rfl, rfl, _, gm, cm, rfl, rfl, hm5⟩; refine ⟨(by first | apply List.Sublist.refl | apply List.nil_sublist | apply List.sublist_cons_self | (repeat (first | apply List.Sublist.refl | apply List.nil_sublist | apply List.Sublist.cons_cons | apply List.Sublist.cons))), hm5, ?_⟩))
                        all_goals (first | (refine RD.last 1 ?_; first | (refine RD.o2 5 rfl (by kernel_rfl) (.no rfl) (OpW.call rfl rfl rfl rfl rfl Try.call38 rfl rfl (Sin := []) (Sr := _) rfl hmean) ?_; rintro _ _ _ ⟨v, Sout, rfl, rfl, _, gm, cm, rfl, rfl, hm5⟩; refine ⟨(by first | apply List.Sublist.refl | apply List.nil_sublist | apply List.sublist_cons_self | (repeat (first | apply List.Sublist.refl | apply List.nil_sublist | apply List.Sublist.cons_cons | apply List.Sublist.cons))), hm5, ?_⟩)) | (refine RD.last 5 ?_; first | (refine RD.o1 1 rfl (by kernel_rfl) (.no rfl) rfl rfl (by first | exact Ev.i64 rfl (by omega) | exact Ev.p rfl | exact Ev.loadB rfl rfl rfl (by repeat constructor) (by rfl)) ?_)))
                        all_goals (first | (refine RD.last 5 ?_; first | (refine RD.o2 6 rfl (by kernel_rfl) (.no rfl) (OpW.append (news := u8s (meanB sz (bitsOf f) (ps.map PX.B))) rfl rfl rfl rfl rfl rfl rfl rfl rfl (by repeat constructor) (by intro h; cases h) (Src.ofRow (by repeat constructor)) hnl u8s_one (by omega) (by show (_ + _) * 1 ≤ _; omega)) ?_; rintro _ _ _ ⟨gz, cz, rfl, rfl, rfl, _⟩; refine ⟨(by first | apply List.Sublist.refl | apply List.nil_sublist | apply List.sublist_cons_self | (repeat (first | apply List.Sublist.refl | apply List.nil_sublist | apply List.Sublist.cons_cons | apply List.Sublist.cons))), hm5, ?_⟩)) | (refine RD.last 1 ?_; first | (refine RD.o2 6 rfl (by kernel_rfl) (.no rfl) (OpW.append (news := u8s (meanB sz (bitsOf f) (ps.map PX.B))) rfl rfl rfl rfl rfl rfl rfl rfl rfl (by repeat constructor) (by intro h; cases h) (Src.ofRow (by repeat constructor)) hnl u8s_one (by omega) (by show (_ + _) * 1 ≤ _; omega)) ?_; rintro _ _ _ ⟨gz, cz, rfl, rfl, rfl, _⟩; refine ⟨(by first | apply List.Sublist.refl | apply List.nil_sublist | apply List.sublist_cons_self | (repeat (first | apply List.Sublist.refl | apply List.nil_sublist | apply List.Sublist.cons_cons | apply List.Sublist.cons))), hm5, ?_⟩)))
                        all_goals (refine RD.tk 7 rfl (by kernel_rfl) (by kernel_rfl) (by kernel_rfl) (.no rfl) rfl rfl (by first | exact Ev.i64 rfl (by omega) | exact Ev.p rfl | exact Ev.loadB rfl rfl rfl (by repeat constructor) (by rfl)) ?_)
                        all_goals (refine RD.sb 8 rfl (by kernel_rfl) (.no rfl) rfl rfl rfl rfl rfl rfl rfl rfl (by repeat constructor) (by rfl) (by first | apply List.Sublist.refl | apply List.nil_sublist | apply List.sublist_cons_self | (repeat (first | apply List.Sublist.refl | apply List.nil_sublist | apply List.Sublist.cons_cons | apply List.Sublist.cons))) (by first | exact Mle.refl _ | assumption) ?_)
                        all_goals (refine RD.done (by kernel_rfl) ?_)
                        all_goals
                          rw [e1, e2]
                          repeat (first | (refine WL.p rfl rfl rfl rfl rfl ?_) | (refine WL.nil ?_) | (refine R.region ?_) | (refine R.seq ?_) | (refine WL.i64 rfl rfl rfl rfl (by omega) ?_) | (refine WL.lb rfl rfl rfl rfl rfl rfl (by repeat constructor) (by rfl) ?_) | (refine WL.yes rfl rfl rfl rfl ?_) | (refine WL.no rfl rfl rfl rfl rfl rfl rfl ?_) | (refine R.block ?_) | (refine R.blk ?_) | (refine R.skip ?_) | (refine R.exit rfl ?_) | (refine R.condT rfl ?_) | (refine R.condF rfl ?_) | (refine R.ret ?_) | (refine WL.al rfl rfl rfl rfl rfl rfl ?_; intro b) | (refine WL.bx rfl rfl rfl rfl rfl rfl ?_; intro b) | (refine WL.sb rfl rfl rfl rfl rfl rfl rfl rfl rfl (by repeat constructor) (by rfl) ?_) | (refine WL.bd rfl rfl rfl rfl rfl ?_) | (refine WL.bs rfl rfl rfl rfl rfl rfl rfl rfl ?_; intro g) | (refine R.scope ?_) | (refine R.label ?_))
                          refine R.weakM (hm4.trans hm5) (fun _ => hm.trans hle) ?_
                          exact again3 (x + 1, gz, cz) _ _ _ (by show x + 1 ≤ nextW W; omega) (by show nextW W - (x + 1) < nextW W - x; omega) (by repeat (first | refine Sub.cons rfl ?_ | exact Sub.nil _)) (by first | apply List.Sublist.refl | apply List.nil_sublist | apply List.sublist_cons_self | (repeat (first | apply List.Sublist.refl | apply List.nil_sublist | apply List.Sublist.cons_cons | apply List.Sublist.cons))) rfl
                    · obtain rfl : x = nextW W := by omega
                      rw [partB_end]
                      repeat (first | (refine WL.p rfl rfl rfl rfl rfl ?_) | (refine WL.nil ?_) | (refine R.region ?_) | (refine R.seq ?_) | (refine WL.i64 rfl rfl rfl rfl (by omega) ?_) | (refine WL.lb rfl rfl rfl rfl rfl rfl (by repeat constructor) (by rfl) ?_) | (refine WL.yes rfl rfl rfl rfl ?_) | (refine WL.no rfl rfl rfl rfl rfl rfl rfl ?_) | (refine R.block ?_) | (refine R.blk ?_) | (refine R.skip ?_) | (refine R.exit rfl ?_) | (refine R.condT rfl ?_) | (refine R.condF rfl ?_) | (refine R.ret ?_) | (refine WL.al rfl rfl rfl rfl rfl rfl ?_; intro b) | (refine WL.bx rfl rfl rfl rfl rfl rfl ?_; intro b) | (refine WL.sb rfl rfl rfl rfl rfl rfl rfl rfl rfl (by repeat constructor) (by rfl) ?_) | (refine WL.bd rfl rfl rfl rfl rfl ?_) | (refine WL.bs rfl rfl rfl rfl rfl rfl rfl rfl ?_; intro g) | (refine R.scope ?_) | (refine R.label ?_))
                      exact again2 (y + 1, go1, co1) _ _ _ (by show y + 1 ≤ nextW H; omega) (by show nextW H - (y + 1) < nextW H - y; omega) (by repeat (first | refine Sub.cons rfl ?_ | exact Sub.nil _)) (by first | apply List.Sublist.refl | apply List.nil_sublist | apply List.sublist_cons_self | (repeat (first | apply List.Sublist.refl | apply List.nil_sublist | apply List.Sublist.cons_cons | apply List.Sublist.cons))) rfl
                  · obtain rfl : y = nextW H := by omega
                    rw [partB_half]
                    repeat (first | (refine WL.p rfl rfl rfl rfl rfl ?_) | (refine WL.nil ?_) | (refine R.region ?_) | (refine R.seq ?_) | (refine WL.i64 rfl rfl rfl rfl (by omega) ?_) | (refine WL.lb rfl rfl rfl rfl rfl rfl (by repeat constructor) (by rfl) ?_) | (refine WL.yes rfl rfl rfl rfl ?_) | (refine WL.no rfl rfl rfl rfl rfl rfl rfl ?_) | (refine R.block ?_) | (refine R.blk ?_) | (refine R.skip ?_) | (refine R.exit rfl ?_) | (refine R.condT rfl ?_) | (refine R.condF rfl ?_) | (refine R.ret ?_) | (refine WL.al rfl rfl rfl rfl rfl rfl ?_; intro b) | (refine WL.bx rfl rfl rfl rfl rfl rfl ?_; intro b) | (refine WL.sb rfl rfl rfl rfl rfl rfl rfl rfl rfl (by repeat constructor) (by rfl) ?_) | (refine WL.bd rfl rfl rfl rfl rfl ?_) | (refine WL.bs rfl rfl rfl rfl rfl rfl rfl rfl ?_; intro g) | (refine R.scope ?_) | (refine R.label ?_))
                    refine WL.app (news := [.int .i64 (nextW W), .int .i64 (nextW H), rowV g0 (halfB sz (bitsOf f) W H B (nextW H)).length c0]) rfl rfl rfl rfl rfl rfl rfl rfl rfl rfl (by repeat constructor) (by intro h; cases h) (Src.ofRow (by repeat constructor)) (by rfl) (allOne_mem rfl) (by omega) (by show (_ + 1) * 40 ≤ _; omega) ?_
                    intro g4 c4 hg4
                    obtain ⟨g5, rfl⟩ : ∃ g5, g4 = some g5 := by
                      cases g4 with
                      | none => have := (hg4.1 rfl).2; cases this
                      | some g => exact ⟨g, rfl⟩
                    refine WL.frz (ao := g0) (cap := c0) (by repeat constructor) fun M5 hm5 hrow hnew => ?_
                    have hys : ∀ i u, ([.int .i64 (nextW W), .int .i64 (nextW H), rowV g0 (halfB sz (bitsOf f) W H B (nextW H)).length c0] : List Value)[i]? = some u → (ls.flatMap OL.cells ++ [.int .i64 (nextW W), .int .i64 (nextW H), rowV g0 (halfB sz (bitsOf f) W H B (nextW H)).length c0])[0 + ls.length * 3 + i]? = some u := by
                      intro i u hi
                      rw [List.getElem?_append_right (by rw [cellsO_len]; omega), cellsO_len, show 0 + ls.length * 3 + i - ls.length * 3 = i by omega]
                      exact hi
                    repeat' (first | (refine WL.ix (0 + ls.length * 3) rfl rfl rfl rfl rfl rfl rfl rfl rfl (by omega) (by omega) (by show _ + _ * 3 = _; omega) ?_) | (refine WL.lr 0 0 rfl rfl rfl rfl rfl rfl (by repeat constructor) hys (by rfl) ?_) | (refine WL.p rfl rfl rfl rfl rfl ?_) | (refine WL.nil ?_) | (refine R.region ?_) | (refine R.seq ?_) | (refine WL.i64 rfl rfl rfl rfl (by omega) ?_) | (refine WL.lb rfl rfl rfl rfl rfl rfl (by repeat constructor) (by rfl) ?_) | (refine WL.yes rfl rfl rfl rfl ?_) | (refine WL.no rfl rfl rfl rfl rfl rfl rfl ?_) | (refine R.block ?_) | (refine R.blk ?_) | (refine R.skip ?_) | (refine R.exit rfl ?_) | (refine R.condT rfl ?_) | (refine R.condF rfl ?_) | (refine R.ret ?_) | (refine WL.al rfl rfl rfl rfl rfl rfl ?_; intro b) | (refine WL.bx rfl rfl rfl rfl rfl rfl ?_; intro b) | (refine WL.sb rfl rfl rfl rfl rfl rfl rfl rfl rfl (by repeat constructor) (by rfl) ?_) | (refine WL.bd rfl rfl rfl rfl rfl ?_) | (refine WL.bs rfl rfl rfl rfl rfl rfl rfl rfl ?_; intro g) | (refine R.scope ?_) | (refine R.label ?_) | ((refine WL.gdP rfl rfl rfl rfl ?_ ?_) <;> intro hg <;> (try (exfalso; omega))) | ((refine WL.gdN rfl rfl rfl rfl ?_ ?_) <;> intro hg <;> (try (exfalso; omega))) | ((refine WL.gd rfl rfl rfl rfl ?_ ?_) <;> intro hg) | ((refine R.condP rfl ?_ ?_) <;> intro hc <;> (try (exfalso; omega))) | ((refine R.condN rfl ?_ ?_) <;> intro hc <;> (try (exfalso; omega))) | ((refine R.cond rfl ?_ ?_) <;> intro hc))
                    refine R.perm (List.Perm.swap _ _ _) ?_
                    refine again (b, ⟨nextW W, nextW H, halfB sz (bitsOf f) W H B (nextW H), g0.map fun g => ⟨g, 0, none⟩, c0, ls ++ [⟨nextW W, nextW H, g0, c0, halfB sz (bitsOf f) W H B (nextW H)⟩], some g5, c4, M5⟩) _ _ _ ⟨hle.trans hm5, hrow.sl, ?_, ⟨nW.1, nW.2.1⟩, ⟨nH.1, nH.2.1⟩, powB_next W (by omega) hpw, powB_next H (by omega) hph, ?_, ?_, ?_⟩ (by show (nextW W - 1) + (nextW H - 1) < (W - 1) + (H - 1); omega) (by repeat (first | refine Sub.cons rfl ?_ | exact Sub.nil _)) ?_ rfl
                    · exact halfB_length _ _ _ _ _ _ |>.trans (by rw [Nat.mul_comm (nextW H), hsz])
                    · exact hfr.snoc (o := ⟨nextW W, nextW H, g0, c0, halfB sz (bitsOf f) W H B (nextW H)⟩) (hm.trans hle) hm5 hrow hnew
                    · show (ls ++ [_]).map OL.p ++ _ = _
                      rw [List.map_append, List.append_assoc]
                      rw [hsz] at hgoal
                      exact hgoal
                    · show (ls ++ [_]).length + _ + _ ≤ 200
                      rw [List.length_append]
                      show ls.length + 1 + (nextW W - 1) + (nextW H - 1) ≤ 200
                      omega
                    · dsimp only
                      rw [List.flatMap_append, List.length_append, show [(⟨nextW W, nextW H, g0, c0, halfB sz (bitsOf f) W H B (nextW H)⟩ : OL)].flatMap OL.cells = [.int .i64 (nextW W), .int .i64 (nextW H), rowV g0 (halfB sz (bitsOf f) W H B (nextW H)).length c0] from rfl]
                      exact (by first | apply List.Sublist.refl | apply List.nil_sublist | apply List.sublist_cons_self | (repeat (first | apply List.Sublist.refl | apply List.nil_sublist | apply List.Sublist.cons_cons | apply List.Sublist.cons)))
end Go.Proofs.Ytaaiimlaklpjpaa
