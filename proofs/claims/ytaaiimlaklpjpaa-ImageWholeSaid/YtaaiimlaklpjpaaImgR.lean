/- The law: all levels are made of the first one. No condition. -/
import Derived.Test.YtaaiimlaklpjpaaImgQ
namespace Go.Proofs.Ytaaiimlaklpjpaa
open Go
set_option linter.unusedVariables false
set_option linter.unusedSimpArgs false
set_option maxRecDepth 100000
set_option maxHeartbeats 4000000
attribute [local irreducible] WL R Fn Fv

section
variable {P : Program} {fn : Func} {N : Nat} {Rf : Ending → World → Prop} {w0 : World} {X : List Nat} {M0 : Mem} {k : List It} {e : Env}
theorem St.thawAll {w : World} {Mx : Mem} (h0 : Mle M0 Mx) : ∀ (ls : List OL) {S : List Own} {M : Mem}, Mle Mx M → Fresh Mx M ls → St w0 X M0 S M w → ∃ M', Mle Mx M' ∧ St w0 X M0 (ls.map OL.own ++ S) M' w
  | [], S, M, hx, hf, hs => ⟨M, hx, hs⟩
  | o :: l, S, M, hx, hf, hs => by
    have ho := hf.2 o (List.Mem.head _)
    have hl : Fresh Mx M l := hf.sub (List.sublist_cons_self _ _)
    obtain ⟨W, H, g, c, B⟩ := o
    cases g with
    | none =>
      have h1 := ho.1.2.1 rfl
      have hB : B = [] := List.eq_nil_of_length_eq_zero h1.1
      have hc : c = 0 := h1.2
      subst hB hc
      obtain ⟨M', hm, h⟩ := St.thawAll h0 l hx hl (hs.addnil 5 1)
      exact ⟨M', hm, h.perm List.perm_middle.symm⟩
    | some g =>
      have hg := ho.2 g rfl
      have hne : ∀ o' ∈ l, o'.g ≠ some g := by
        intro o' ho' he
        have := hf.1
        simp only [List.filterMap_cons] at this
        exact (List.nodup_cons.1 this).1 (List.mem_filterMap.2 ⟨o', ho', he⟩)
      have h2 := St.thaw ho.1 (by cases hx0 : M0 g with | none => rfl | some x => have := h0 g x hx0; rw [hg] at this; cases this) hs
      obtain ⟨M', hm, h⟩ := St.thawAll h0 l (Mle.del hx hg) ⟨hl.1, fun o' ho' => ⟨(hl.2 o' ho').1.del (hne o' ho'), (hl.2 o' ho').2⟩⟩ h2
      exact ⟨M', hm, h.perm List.perm_middle.symm⟩
/-- An image that was made is one's own to turn. -/
theorem WL.thawImg {ops : Array Oper} {l : List Oper} {Mx : Mem} {go : Option Nat} {gc n : Nat} {cs : List Value} {S S' : List Own} {M : Mem} (hu : Pull S (.row go gc 34 3 n cs) S') (h0 : Mle M0 Mx) (ls : List OL) (hx : Mle Mx M) (hf : Fresh Mx M ls)
    (h : ∀ M', Mle Mx M' → WL P fn N Rf w0 X M0 k ops l e (S' ++ (.row go gc 34 3 n cs :: ls.map OL.own)) M') : WL P fn N Rf w0 X M0 k ops l e S M := by
  unfold WL at h ⊢
  intro a w hfit hs
  obtain ⟨M', hm, h2⟩ := St.thawAll h0 ls hx hf (hs.perm hu.perm)
  refine h M' hm a w hfit (h2.perm ?_)
  refine List.perm_middle.trans (List.Perm.trans ?_ List.perm_middle.symm)
  exact List.Perm.cons _ List.perm_append_comm
end
theorem short_bd {p : PI} {ls : List OL} (h : ls.map OL.p = (shortP p).lv) : ls.length ≤ 9 ∧ ∀ o ∈ ls, o.B.length ≤ 20000 := by
  have hl : ls.length ≤ 9 := by
    have := congrArg List.length h
    simp only [List.length_map, shortP, List.length_take] at this
    omega
  refine ⟨hl, fun o ho => ?_⟩
  have : o.p ∈ (shortP p).lv := by rw [← h]; exact List.mem_map_of_mem ho
  obtain ⟨l, _, hl⟩ := List.mem_map.1 this
  have h2 := congrArg (fun p : PL => p.2.2.length) hl
  simp only [cutP, OL.p, List.length_take] at h2
  omega
def zeroOI : OI := ⟨0, none, 0, [], 0, 0, 0, 0⟩

theorem makes_fn (f : Int) (ao : Option Addr) (cap : Nat) (lv : List RL) (ws wt mn mg : Int) (M : Mem) (hsl : SlM M ao lv.length cap (lv.flatMap RL.cells)) (hlv : ∀ r ∈ lv, r.ok M) (hlen : lv.length ≤ 4611686018427387904) (hby : ∀ r ∈ lv, r.B.length ≤ 140737488355328) :
    Fn Try.prog 3 [.agg #[.int .i64 f, .slice ao lv.length cap, .int .i64 ws, .int .i64 wt, .int .i64 mn, .int .i64 mg]] [] M (fun v _ _ => v = .bool true) := by
  refine Fn.enter (E := [(0, _)]) Try.func3 rfl Try.ntmps3 rfl rfl fun w0 => ?_
  repeat (first | (refine WL.p rfl rfl rfl rfl rfl ?_) | (refine WL.nil ?_) | (refine R.region ?_) | (refine R.seq ?_) | (refine WL.i64 rfl rfl rfl rfl (by omega) ?_) | (refine WL.lb rfl rfl rfl rfl rfl rfl (by repeat constructor) (by rfl) ?_) | (refine WL.yes rfl rfl rfl rfl ?_) | (refine WL.no rfl rfl rfl rfl rfl rfl rfl ?_) | (refine R.block ?_) | (refine R.blk ?_) | (refine R.skip ?_) | (refine R.exit rfl ?_) | (refine R.condT rfl ?_) | (refine R.condF rfl ?_) | (refine R.ret ?_) | (refine WL.al rfl rfl rfl rfl rfl rfl ?_; intro b) | (refine WL.bx rfl rfl rfl rfl rfl rfl ?_; intro b) | (refine WL.sb rfl rfl rfl rfl rfl rfl rfl rfl rfl (by repeat constructor) (by rfl) ?_) | (refine WL.bd rfl rfl rfl rfl rfl ?_) | (refine WL.bs rfl rfl rfl rfl rfl rfl rfl rfl ?_; intro g) | (refine R.scope ?_) | (refine R.label ?_))
  refine WL.call Try.call9 rfl rfl rfl rfl rfl rfl rfl rfl (Sin := []) rfl (wakes_fn _) ?_
  rintro v S1 M1 hm1 ⟨rfl, rfl⟩
  repeat' (first | (refine WL.p rfl rfl rfl rfl rfl ?_) | (refine WL.nil ?_) | (refine R.region ?_) | (refine R.seq ?_) | (refine WL.i64 rfl rfl rfl rfl (by omega) ?_) | (refine WL.lb rfl rfl rfl rfl rfl rfl (by repeat constructor) (by rfl) ?_) | (refine WL.yes rfl rfl rfl rfl ?_) | (refine WL.no rfl rfl rfl rfl rfl rfl rfl ?_) | (refine R.block ?_) | (refine R.blk ?_) | (refine R.skip ?_) | (refine R.exit rfl ?_) | (refine R.condT rfl ?_) | (refine R.condF rfl ?_) | (refine R.ret ?_) | (refine WL.al rfl rfl rfl rfl rfl rfl ?_; intro b) | (refine WL.bx rfl rfl rfl rfl rfl rfl ?_; intro b) | (refine WL.sb rfl rfl rfl rfl rfl rfl rfl rfl rfl (by repeat constructor) (by rfl) ?_) | (refine WL.bd rfl rfl rfl rfl rfl ?_) | (refine WL.bs rfl rfl rfl rfl rfl rfl rfl rfl ?_; intro g) | (refine R.scope ?_) | (refine R.label ?_) | ((refine WL.gdP rfl rfl rfl rfl ?_ ?_) <;> intro hg <;> (try (exfalso; omega))) | ((refine WL.gdN rfl rfl rfl rfl ?_ ?_) <;> intro hg <;> (try (exfalso; omega))) | ((refine WL.gd rfl rfl rfl rfl ?_ ?_) <;> intro hg) | ((refine R.condP rfl ?_ ?_) <;> intro hc <;> (try (exfalso; omega))) | ((refine R.condN rfl ?_ ?_) <;> intro hc <;> (try (exfalso; omega))) | ((refine R.cond rfl ?_ ?_) <;> intro hc))
  refine WL.call Try.call10 rfl rfl rfl rfl rfl rfl rfl rfl (Sin := []) rfl (short_core f ao cap lv ws wt mn mg M1 (hsl.mle hm1) (fun r hr => (hlv r hr).mle hm1) hlen hby) ?_
  rintro v S2 M2 hm2 ⟨go, gc, ls, rfl, rfl, hfr, hp⟩
  dsimp only [shortP, List.cons_append, List.nil_append]
  refine WL.frz (ao := go) (cap := gc) (by repeat constructor) fun M3 hm3 hrow _ => ?_
  have hbd := short_bd hp
  have hx : OI.ok M3 ⟨f, go, gc, ls, ws, wt, mn, mg⟩ := OI.mk_ok hfr hm3 hrow (by show ls.length ≤ 1000; omega) (fun o ho => by have := hbd.2 o ho; omega)
  repeat (first | (refine WL.p rfl rfl rfl rfl rfl ?_) | (refine WL.nil ?_) | (refine R.region ?_) | (refine R.seq ?_) | (refine WL.i64 rfl rfl rfl rfl (by omega) ?_) | (refine WL.lb rfl rfl rfl rfl rfl rfl (by repeat constructor) (by rfl) ?_) | (refine WL.yes rfl rfl rfl rfl ?_) | (refine WL.no rfl rfl rfl rfl rfl rfl rfl ?_) | (refine R.block ?_) | (refine R.blk ?_) | (refine R.skip ?_) | (refine R.exit rfl ?_) | (refine R.condT rfl ?_) | (refine R.condF rfl ?_) | (refine R.ret ?_) | (refine WL.al rfl rfl rfl rfl rfl rfl ?_; intro b) | (refine WL.bx rfl rfl rfl rfl rfl rfl ?_; intro b) | (refine WL.sb rfl rfl rfl rfl rfl rfl rfl rfl rfl (by repeat constructor) (by rfl) ?_) | (refine WL.bd rfl rfl rfl rfl rfl ?_) | (refine WL.bs rfl rfl rfl rfl rfl rfl rfl rfl ?_; intro g) | (refine R.scope ?_) | (refine R.label ?_))
  refine WL.call Try.call11 rfl rfl rfl rfl rfl rfl rfl rfl (Sin := []) rfl (copy_own _ M3 hx) ?_
  rintro v S4 M4 hm4 ⟨go', gc', ls', rfl, rfl, hfr', hp'⟩
  dsimp only [OI.p, List.cons_append, List.nil_append]
  refine WL.frz (ao := go') (cap := gc') (by repeat constructor) fun M5 hm5 hrow' _ => ?_
  simp only [OI.p] at hp'
  have hbd' := short_bd (hp'.trans hp)
  have hw : OI.ok M5 ⟨f, go', gc', ls', ws, wt, mn, mg⟩ := OI.mk_ok hfr' hm5 hrow' (by show ls'.length ≤ 1000; omega) (fun o ho => by have := hbd'.2 o ho; omega)
  have hxw : OI.p ⟨f, go, gc, ls, ws, wt, mn, mg⟩ = OI.p ⟨f, go', gc', ls', ws, wt, mn, mg⟩ := by simp only [OI.p, hp']
  have hx5 := hx.mle (hm4.trans hm5)
  have g1 := generate_own _ M5 hx5
  have hzk : ∀ M', zeroOI.okW M' := fun M' => ⟨RowM.nil _ _ _, (fun o ho => by cases ho)⟩
  cases hres : genP (OI.p ⟨f, go, gc, ls, ws, wt, mn, mg⟩) with
  | error er =>
    rw [hres] at g1
    repeat (first | (refine WL.p rfl rfl rfl rfl rfl ?_) | (refine WL.nil ?_) | (refine R.region ?_) | (refine R.seq ?_) | (refine WL.i64 rfl rfl rfl rfl (by omega) ?_) | (refine WL.lb rfl rfl rfl rfl rfl rfl (by repeat constructor) (by rfl) ?_) | (refine WL.yes rfl rfl rfl rfl ?_) | (refine WL.no rfl rfl rfl rfl rfl rfl rfl ?_) | (refine R.block ?_) | (refine R.blk ?_) | (refine R.skip ?_) | (refine R.exit rfl ?_) | (refine R.condT rfl ?_) | (refine R.condF rfl ?_) | (refine R.ret ?_) | (refine WL.al rfl rfl rfl rfl rfl rfl ?_; intro b) | (refine WL.bx rfl rfl rfl rfl rfl rfl ?_; intro b) | (refine WL.sb rfl rfl rfl rfl rfl rfl rfl rfl rfl (by repeat constructor) (by rfl) ?_) | (refine WL.bd rfl rfl rfl rfl rfl ?_) | (refine WL.bs rfl rfl rfl rfl rfl rfl rfl rfl ?_; intro g) | (refine R.scope ?_) | (refine R.label ?_))
    refine WL.call Try.call12 rfl rfl rfl rfl rfl rfl rfl rfl (Sin := []) rfl g1 ?_
    rintro v S6 M6 hm6 ⟨rfl, rfl⟩
    have g2 := rgenerate_own _ M6 (hw.mle hm6)
    rw [← hxw, hres] at g2
    repeat (first | (refine WL.p rfl rfl rfl rfl rfl ?_) | (refine WL.nil ?_) | (refine R.region ?_) | (refine R.seq ?_) | (refine WL.i64 rfl rfl rfl rfl (by omega) ?_) | (refine WL.lb rfl rfl rfl rfl rfl rfl (by repeat constructor) (by rfl) ?_) | (refine WL.yes rfl rfl rfl rfl ?_) | (refine WL.no rfl rfl rfl rfl rfl rfl rfl ?_) | (refine R.block ?_) | (refine R.blk ?_) | (refine R.skip ?_) | (refine R.exit rfl ?_) | (refine R.condT rfl ?_) | (refine R.condF rfl ?_) | (refine R.ret ?_) | (refine WL.al rfl rfl rfl rfl rfl rfl ?_; intro b) | (refine WL.bx rfl rfl rfl rfl rfl rfl ?_; intro b) | (refine WL.sb rfl rfl rfl rfl rfl rfl rfl rfl rfl (by repeat constructor) (by rfl) ?_) | (refine WL.bd rfl rfl rfl rfl rfl ?_) | (refine WL.bs rfl rfl rfl rfl rfl rfl rfl rfl ?_; intro g) | (refine R.scope ?_) | (refine R.label ?_))
    refine WL.call Try.call13 rfl rfl rfl rfl rfl rfl rfl rfl (Sin := []) rfl g2 ?_
    rintro v S7 M7 hm7 ⟨rfl, rfl⟩
    refine WL.addnilE 34 3 ?_
    dsimp only [List.cons_append, List.nil_append]
    repeat (first | (refine WL.p rfl rfl rfl rfl rfl ?_) | (refine WL.nil ?_) | (refine R.region ?_) | (refine R.seq ?_) | (refine WL.i64 rfl rfl rfl rfl (by omega) ?_) | (refine WL.lb rfl rfl rfl rfl rfl rfl (by repeat constructor) (by rfl) ?_) | (refine WL.yes rfl rfl rfl rfl ?_) | (refine WL.no rfl rfl rfl rfl rfl rfl rfl ?_) | (refine R.block ?_) | (refine R.blk ?_) | (refine R.skip ?_) | (refine R.exit rfl ?_) | (refine R.condT rfl ?_) | (refine R.condF rfl ?_) | (refine R.ret ?_) | (refine WL.al rfl rfl rfl rfl rfl rfl ?_; intro b) | (refine WL.bx rfl rfl rfl rfl rfl rfl ?_; intro b) | (refine WL.sb rfl rfl rfl rfl rfl rfl rfl rfl rfl (by repeat constructor) (by rfl) ?_) | (refine WL.bd rfl rfl rfl rfl rfl ?_) | (refine WL.bs rfl rfl rfl rfl rfl rfl rfl rfl ?_; intro g) | (refine R.scope ?_) | (refine R.label ?_))
    refine WL.callE Try.call14 rfl rfl rfl rfl rfl rfl rfl rfl (Sl := [_, _, _, _]) (Sin := [.row none 0 34 3 0 []]) rfl (right_fn zeroOI zeroOI _ _ er M7 (hzk _) ((hx5.mle hm6).mle hm7).w ((hw.mle hm6).mle hm7).w rfl hxw) ?_
    rintro v S8 M8 hm8 ⟨rfl, rfl⟩
    repeat (first | (refine WL.p rfl rfl rfl rfl rfl ?_) | (refine WL.nil ?_) | (refine R.region ?_) | (refine R.seq ?_) | (refine WL.i64 rfl rfl rfl rfl (by omega) ?_) | (refine WL.lb rfl rfl rfl rfl rfl rfl (by repeat constructor) (by rfl) ?_) | (refine WL.yes rfl rfl rfl rfl ?_) | (refine WL.no rfl rfl rfl rfl rfl rfl rfl ?_) | (refine R.block ?_) | (refine R.blk ?_) | (refine R.skip ?_) | (refine R.exit rfl ?_) | (refine R.condT rfl ?_) | (refine R.condF rfl ?_) | (refine R.ret ?_) | (refine WL.al rfl rfl rfl rfl rfl rfl ?_; intro b) | (refine WL.bx rfl rfl rfl rfl rfl rfl ?_; intro b) | (refine WL.sb rfl rfl rfl rfl rfl rfl rfl rfl rfl (by repeat constructor) (by rfl) ?_) | (refine WL.bd rfl rfl rfl rfl rfl ?_) | (refine WL.bs rfl rfl rfl rfl rfl rfl rfl rfl ?_; intro g) | (refine R.scope ?_) | (refine R.label ?_))
    exact R.ret1 rfl rfl (List.nil_sublist _) fun _ => rfl
  | ok q =>
    rw [hres] at g1
    repeat (first | (refine WL.p rfl rfl rfl rfl rfl ?_) | (refine WL.nil ?_) | (refine R.region ?_) | (refine R.seq ?_) | (refine WL.i64 rfl rfl rfl rfl (by omega) ?_) | (refine WL.lb rfl rfl rfl rfl rfl rfl (by repeat constructor) (by rfl) ?_) | (refine WL.yes rfl rfl rfl rfl ?_) | (refine WL.no rfl rfl rfl rfl rfl rfl rfl ?_) | (refine R.block ?_) | (refine R.blk ?_) | (refine R.skip ?_) | (refine R.exit rfl ?_) | (refine R.condT rfl ?_) | (refine R.condF rfl ?_) | (refine R.ret ?_) | (refine WL.al rfl rfl rfl rfl rfl rfl ?_; intro b) | (refine WL.bx rfl rfl rfl rfl rfl rfl ?_; intro b) | (refine WL.sb rfl rfl rfl rfl rfl rfl rfl rfl rfl (by repeat constructor) (by rfl) ?_) | (refine WL.bd rfl rfl rfl rfl rfl ?_) | (refine WL.bs rfl rfl rfl rfl rfl rfl rfl rfl ?_; intro g) | (refine R.scope ?_) | (refine R.label ?_))
    refine WL.call Try.call12 rfl rfl rfl rfl rfl rfl rfl rfl (Sin := []) rfl g1 ?_
    rintro v S6 M6 hm6 ⟨v0, rfl, go6, gc6, ls6, rfl, rfl, hfr6, hp6⟩
    dsimp only [List.cons_append, List.nil_append]
    refine WL.thawImg (by repeat constructor) ((hm1.trans (hm2.trans hm3)).trans (hm4.trans hm5)) ls6 hm6 hfr6 fun M7 hm7 => ?_
    dsimp only [List.cons_append, List.nil_append]
    have g2 := rgenerate_own _ M7 (hw.mle hm7)
    rw [← hxw, hres] at g2
    repeat (first | (refine WL.p rfl rfl rfl rfl rfl ?_) | (refine WL.nil ?_) | (refine R.region ?_) | (refine R.seq ?_) | (refine WL.i64 rfl rfl rfl rfl (by omega) ?_) | (refine WL.lb rfl rfl rfl rfl rfl rfl (by repeat constructor) (by rfl) ?_) | (refine WL.yes rfl rfl rfl rfl ?_) | (refine WL.no rfl rfl rfl rfl rfl rfl rfl ?_) | (refine R.block ?_) | (refine R.blk ?_) | (refine R.skip ?_) | (refine R.exit rfl ?_) | (refine R.condT rfl ?_) | (refine R.condF rfl ?_) | (refine R.ret ?_) | (refine WL.al rfl rfl rfl rfl rfl rfl ?_; intro b) | (refine WL.bx rfl rfl rfl rfl rfl rfl ?_; intro b) | (refine WL.sb rfl rfl rfl rfl rfl rfl rfl rfl rfl (by repeat constructor) (by rfl) ?_) | (refine WL.bd rfl rfl rfl rfl rfl ?_) | (refine WL.bs rfl rfl rfl rfl rfl rfl rfl rfl ?_; intro g) | (refine R.scope ?_) | (refine R.label ?_))
    refine WL.call Try.call13 rfl rfl rfl rfl rfl rfl rfl rfl (Sin := []) rfl g2 ?_
    rintro v S8 M8 hm8 ⟨v0, rfl, go8, gc8, ls8, rfl, rfl, hfr8, hp8⟩
    dsimp only [List.cons_append, List.nil_append]
    refine WL.frz (ao := go8) (cap := gc8) (by repeat constructor) fun M9 hm9 hrow9 _ => ?_
    have hwant : OI.okW M9 ⟨q.f, go8, gc8, ls8, q.ws, q.wt, q.mn, q.mg⟩ := ⟨hrow9, fun o ho => ((hfr8.2 o ho).1).mle hm9⟩
    have h9 : Mle M5 M9 := hm7.trans (hm8.trans hm9)
    have hgw : OI.p ⟨q.f, go6, gc6, ls6, q.ws, q.wt, q.mn, q.mg⟩ = OI.p ⟨q.f, go8, gc8, ls8, q.ws, q.wt, q.mn, q.mg⟩ := by simp only [OI.p, hp6, hp8]
    repeat (first | (refine WL.p rfl rfl rfl rfl rfl ?_) | (refine WL.nil ?_) | (refine R.region ?_) | (refine R.seq ?_) | (refine WL.i64 rfl rfl rfl rfl (by omega) ?_) | (refine WL.lb rfl rfl rfl rfl rfl rfl (by repeat constructor) (by rfl) ?_) | (refine WL.yes rfl rfl rfl rfl ?_) | (refine WL.no rfl rfl rfl rfl rfl rfl rfl ?_) | (refine R.block ?_) | (refine R.blk ?_) | (refine R.skip ?_) | (refine R.exit rfl ?_) | (refine R.condT rfl ?_) | (refine R.condF rfl ?_) | (refine R.ret ?_) | (refine WL.al rfl rfl rfl rfl rfl rfl ?_; intro b) | (refine WL.bx rfl rfl rfl rfl rfl rfl ?_; intro b) | (refine WL.sb rfl rfl rfl rfl rfl rfl rfl rfl rfl (by repeat constructor) (by rfl) ?_) | (refine WL.bd rfl rfl rfl rfl rfl ?_) | (refine WL.bs rfl rfl rfl rfl rfl rfl rfl rfl ?_; intro g) | (refine R.scope ?_) | (refine R.label ?_))
    refine WL.callE Try.call14 rfl rfl rfl rfl rfl rfl rfl rfl (Sl := [_, _, _, _]) (Sin := (.row go6 gc6 34 3 ls6.length (ls6.flatMap OL.cells) :: ls6.map OL.own)) rfl (right_fn ⟨q.f, go6, gc6, ls6, q.ws, q.wt, q.mn, q.mg⟩ _ _ _ 0 M9 hwant (hx5.mle h9).w (hw.mle h9).w hgw hxw) ?_
    rintro v S10 M10 hm10 ⟨rfl, rfl⟩
    repeat (first | (refine WL.p rfl rfl rfl rfl rfl ?_) | (refine WL.nil ?_) | (refine R.region ?_) | (refine R.seq ?_) | (refine WL.i64 rfl rfl rfl rfl (by omega) ?_) | (refine WL.lb rfl rfl rfl rfl rfl rfl (by repeat constructor) (by rfl) ?_) | (refine WL.yes rfl rfl rfl rfl ?_) | (refine WL.no rfl rfl rfl rfl rfl rfl rfl ?_) | (refine R.block ?_) | (refine R.blk ?_) | (refine R.skip ?_) | (refine R.exit rfl ?_) | (refine R.condT rfl ?_) | (refine R.condF rfl ?_) | (refine R.ret ?_) | (refine WL.al rfl rfl rfl rfl rfl rfl ?_; intro b) | (refine WL.bx rfl rfl rfl rfl rfl rfl ?_; intro b) | (refine WL.sb rfl rfl rfl rfl rfl rfl rfl rfl rfl (by repeat constructor) (by rfl) ?_) | (refine WL.bd rfl rfl rfl rfl rfl ?_) | (refine WL.bs rfl rfl rfl rfl rfl rfl rfl rfl ?_; intro g) | (refine R.scope ?_) | (refine R.label ?_))
    exact R.ret1 rfl rfl (List.nil_sublist _) fun _ => rfl
end Go.Proofs.Ytaaiimlaklpjpaa
