/- Contracts: the reference's copy of an image; the law's short image. No condition. -/
import Derived.Test.YtaaiimlaklpjpaaImgF
namespace Go.Proofs.Ytaaiimlaklpjpaa
open Go
set_option linter.unusedVariables false
set_option linter.unusedSimpArgs false
set_option maxRecDepth 100000
set_option maxHeartbeats 4000000
attribute [local irreducible] WL R Fn Fv

theorem copy_core (f : Int) (ao : Option Addr) (cap : Nat) (lv : List RL) (ws wt mn mg : Int) (M : Mem) (hsl : SlM M ao lv.length cap (lv.flatMap RL.cells)) (hlv : ∀ r ∈ lv, r.ok M) (hlen : lv.length ≤ 1000) (hby : ∀ r ∈ lv, r.B.length ≤ 140737488355328) :
    Fn Try.prog 11 [.agg #[.int .i64 f, .slice ao lv.length cap, .int .i64 ws, .int .i64 wt, .int .i64 mn, .int .i64 mg]] [] M (ImgPost ⟨f, lv.map RL.p, ws, wt, mn, mg⟩ M) := by
  refine Fn.enter (E := [(0, _)]) Try.func11 rfl Try.ntmps11 rfl rfl fun w0 => ?_
  repeat (first | (refine WL.p rfl rfl rfl rfl rfl ?_) | (refine WL.nil ?_) | (refine R.region ?_) | (refine R.seq ?_) | (refine WL.i64 rfl rfl rfl rfl (by omega) ?_) | (refine WL.lb rfl rfl rfl rfl rfl rfl (by repeat constructor) (by rfl) ?_) | (refine WL.yes rfl rfl rfl rfl ?_) | (refine WL.no rfl rfl rfl rfl rfl rfl rfl ?_) | (refine R.block ?_) | (refine R.blk ?_) | (refine R.skip ?_) | (refine R.exit rfl ?_) | (refine R.condT rfl ?_) | (refine R.condF rfl ?_) | (refine R.ret ?_) | (refine WL.al rfl rfl rfl rfl rfl rfl ?_; intro b) | (refine WL.bx rfl rfl rfl rfl rfl rfl ?_; intro b) | (refine WL.sb rfl rfl rfl rfl rfl rfl rfl rfl rfl (by repeat constructor) (by rfl) ?_) | (refine WL.bd rfl rfl rfl rfl rfl ?_) | (refine WL.bs rfl rfl rfl rfl rfl rfl rfl rfl ?_; intro g) | (refine R.scope ?_) | (refine R.label ?_))
  rename_i b0
  refine R.nilrow 3 34 3 rfl ?_
  refine R.loop (α := Nat × List OL × Mem × Option Nat × Nat) (fun x => [(9, .int .i64 x.1), (8, .int .i64 lv.length), (7, .slice ao lv.length cap), (3, rowV x.2.2.2.1 x.1 x.2.2.2.2), (2, .pointer (some ⟨b, 0, none⟩)), (1, .pointer (some ⟨b0, 0, none⟩))]) (fun x => [.row x.2.2.2.1 x.2.2.2.2 34 3 x.1 (x.2.1.flatMap OL.cells), _, _]) (fun x => x.2.2.1)
    (fun x => x.2.1.length = x.1 ∧ x.1 ≤ lv.length ∧ Mle M x.2.2.1 ∧ Fresh M x.2.2.1 x.2.1 ∧ x.2.1.map OL.p = (lv.take x.1).map RL.p) (fun x => lv.length - x.1) (0, [], M, none, 0) ⟨rfl, Nat.zero_le _, Mle.refl _, Fresh.nil _ _, by simp⟩ (by repeat (first | refine Sub.cons rfl ?_ | exact Sub.nil _)) (List.Sublist.refl _) rfl ?_
  rintro ⟨k, ls, M2, go, gc⟩ J ⟨hk0, hk, hm2, hfr, hp⟩ again
  simp only at hk0 hk hm2 hfr hp
  dsimp only
  repeat (first | (refine WL.p rfl rfl rfl rfl rfl ?_) | (refine WL.nil ?_) | (refine R.region ?_) | (refine R.seq ?_) | (refine WL.i64 rfl rfl rfl rfl (by omega) ?_) | (refine WL.lb rfl rfl rfl rfl rfl rfl (by repeat constructor) (by rfl) ?_) | (refine WL.yes rfl rfl rfl rfl ?_) | (refine WL.no rfl rfl rfl rfl rfl rfl rfl ?_) | (refine R.block ?_) | (refine R.blk ?_) | (refine R.skip ?_) | (refine R.exit rfl ?_) | (refine R.condT rfl ?_) | (refine R.condF rfl ?_) | (refine R.ret ?_) | (refine WL.al rfl rfl rfl rfl rfl rfl ?_; intro b) | (refine WL.bx rfl rfl rfl rfl rfl rfl ?_; intro b) | (refine WL.sb rfl rfl rfl rfl rfl rfl rfl rfl rfl (by repeat constructor) (by rfl) ?_) | (refine WL.bd rfl rfl rfl rfl rfl ?_) | (refine WL.bs rfl rfl rfl rfl rfl rfl rfl rfl ?_; intro g) | (refine R.scope ?_) | (refine R.label ?_))
  refine R.condP rfl (fun hlt => ?_) (fun hge => ?_)
  · have hlt' : k < lv.length := by omega
    obtain ⟨ab, aoff, rfl, hc⟩ := (hsl.mle hm2).some (by omega)
    have he := hc.lvl hlt'
    have hmem : lv[k] ∈ lv := List.getElem_mem hlt'
    have hr := (hlv _ hmem).mle hm2
    have hb := hby _ hmem
    repeat' (first | (refine WL.p rfl rfl rfl rfl rfl ?_) | (refine WL.nil ?_) | (refine R.region ?_) | (refine R.seq ?_) | (refine WL.i64 rfl rfl rfl rfl (by omega) ?_) | (refine WL.lb rfl rfl rfl rfl rfl rfl (by repeat constructor) (by rfl) ?_) | (refine WL.yes rfl rfl rfl rfl ?_) | (refine WL.no rfl rfl rfl rfl rfl rfl rfl ?_) | (refine R.block ?_) | (refine R.blk ?_) | (refine R.skip ?_) | (refine R.exit rfl ?_) | (refine R.condT rfl ?_) | (refine R.condF rfl ?_) | (refine R.ret ?_) | (refine WL.al rfl rfl rfl rfl rfl rfl ?_; intro b) | (refine WL.bx rfl rfl rfl rfl rfl rfl ?_; intro b) | (refine WL.sb rfl rfl rfl rfl rfl rfl rfl rfl rfl (by repeat constructor) (by rfl) ?_) | (refine WL.bd rfl rfl rfl rfl rfl ?_) | (refine WL.bs rfl rfl rfl rfl rfl rfl rfl rfl ?_; intro g) | (refine R.scope ?_) | (refine R.label ?_) | (refine WL.ix (aoff + k * 3) rfl rfl rfl rfl rfl rfl rfl rfl rfl (by omega) (by omega) (by show _ + _ * 3 = _; omega) ?_) | (refine WL.lm rfl rfl rfl rfl rfl rfl he (by rfl) ?_) | ((refine WL.gdP rfl rfl rfl rfl ?_ ?_) <;> intro hg <;> (try (exfalso; omega))) | ((refine WL.gdN rfl rfl rfl rfl ?_ ?_) <;> intro hg <;> (try (exfalso; omega))) | ((refine WL.gd rfl rfl rfl rfl ?_ ?_) <;> intro hg) | ((refine R.condP rfl ?_ ?_) <;> intro hc <;> (try (exfalso; omega))) | ((refine R.condN rfl ?_ ?_) <;> intro hc <;> (try (exfalso; omega))) | ((refine R.cond rfl ?_ ?_) <;> intro hc))
    refine WL.app rfl rfl rfl rfl rfl rfl rfl rfl rfl rfl (by repeat constructor) (fun h => (hr.2.1 h).1) (Src.ofSl hr) (by show _ = _ * 1; simp) u8s_one (by omega) (by show (0 + _) * 1 ≤ _; omega) ?_
    intro g3 c3 _
    rw [show 0 + lv[k].B.length = lv[k].B.length from Nat.zero_add _]
    repeat (first | (refine WL.p rfl rfl rfl rfl rfl ?_) | (refine WL.nil ?_) | (refine R.region ?_) | (refine R.seq ?_) | (refine WL.i64 rfl rfl rfl rfl (by omega) ?_) | (refine WL.lb rfl rfl rfl rfl rfl rfl (by repeat constructor) (by rfl) ?_) | (refine WL.yes rfl rfl rfl rfl ?_) | (refine WL.no rfl rfl rfl rfl rfl rfl rfl ?_) | (refine R.block ?_) | (refine R.blk ?_) | (refine R.skip ?_) | (refine R.exit rfl ?_) | (refine R.condT rfl ?_) | (refine R.condF rfl ?_) | (refine R.ret ?_) | (refine WL.al rfl rfl rfl rfl rfl rfl ?_; intro b) | (refine WL.bx rfl rfl rfl rfl rfl rfl ?_; intro b) | (refine WL.sb rfl rfl rfl rfl rfl rfl rfl rfl rfl (by repeat constructor) (by rfl) ?_) | (refine WL.bd rfl rfl rfl rfl rfl ?_) | (refine WL.bs rfl rfl rfl rfl rfl rfl rfl rfl ?_; intro g) | (refine R.scope ?_) | (refine R.label ?_))
    rename_i g1 b2 g2
    refine WL.app (news := [.int .i64 lv[k].W, .int .i64 lv[k].H, rowV g3 lv[k].B.length c3]) rfl rfl rfl rfl rfl rfl rfl rfl rfl rfl (by repeat constructor) (by intro h; cases h) (Src.ofRow (by repeat constructor)) (by rfl) (allOne_mem rfl) (by omega) (by show (_ + 1) * 40 ≤ _; omega) ?_
    intro g4 c4 _
    refine WL.frz (ao := g3) (cap := c3) (by repeat constructor) fun M3 hm4 hrow hnew => ?_
    repeat (first | (refine WL.p rfl rfl rfl rfl rfl ?_) | (refine WL.nil ?_) | (refine R.region ?_) | (refine R.seq ?_) | (refine WL.i64 rfl rfl rfl rfl (by omega) ?_) | (refine WL.lb rfl rfl rfl rfl rfl rfl (by repeat constructor) (by rfl) ?_) | (refine WL.yes rfl rfl rfl rfl ?_) | (refine WL.no rfl rfl rfl rfl rfl rfl rfl ?_) | (refine R.block ?_) | (refine R.blk ?_) | (refine R.skip ?_) | (refine R.exit rfl ?_) | (refine R.condT rfl ?_) | (refine R.condF rfl ?_) | (refine R.ret ?_) | (refine WL.al rfl rfl rfl rfl rfl rfl ?_; intro b) | (refine WL.bx rfl rfl rfl rfl rfl rfl ?_; intro b) | (refine WL.sb rfl rfl rfl rfl rfl rfl rfl rfl rfl (by repeat constructor) (by rfl) ?_) | (refine WL.bd rfl rfl rfl rfl rfl ?_) | (refine WL.bs rfl rfl rfl rfl rfl rfl rfl rfl ?_; intro g) | (refine R.scope ?_) | (refine R.label ?_))
    refine again (k + 1, ls ++ [lv[k].to g3 c3], M3, g4, c4) _ _ _ ⟨by simp; omega, by omega, hm2.trans hm4, hfr.snoc (o := lv[k].to g3 c3) hm2 hm4 hrow hnew, ?_⟩ (by show lv.length - (k + 1) < lv.length - k; omega) (by repeat (first | refine Sub.cons rfl ?_ | exact Sub.nil _)) ?_ rfl
    · show (ls ++ [lv[k].to g3 c3]).map OL.p = (lv.take (k + 1)).map RL.p
      rw [List.map_append, hp, List.take_succ_eq_append_getElem hlt', List.map_append]
      rfl
    · dsimp only
      rw [List.flatMap_append, show [lv[k].to g3 c3].flatMap OL.cells = [.int .i64 lv[k].W, .int .i64 lv[k].H, rowV g3 lv[k].B.length c3] from rfl]
      exact List.Sublist.cons_cons _ (by apply List.Sublist.cons; apply List.Sublist.cons; exact List.Sublist.refl _)
  · have hkk : k = lv.length := by omega
    subst hkk
    repeat (first | (refine WL.p rfl rfl rfl rfl rfl ?_) | (refine WL.nil ?_) | (refine R.region ?_) | (refine R.seq ?_) | (refine WL.i64 rfl rfl rfl rfl (by omega) ?_) | (refine WL.lb rfl rfl rfl rfl rfl rfl (by repeat constructor) (by rfl) ?_) | (refine WL.yes rfl rfl rfl rfl ?_) | (refine WL.no rfl rfl rfl rfl rfl rfl rfl ?_) | (refine R.block ?_) | (refine R.blk ?_) | (refine R.skip ?_) | (refine R.exit rfl ?_) | (refine R.condT rfl ?_) | (refine R.condF rfl ?_) | (refine R.ret ?_) | (refine WL.al rfl rfl rfl rfl rfl rfl ?_; intro b) | (refine WL.bx rfl rfl rfl rfl rfl rfl ?_; intro b) | (refine WL.sb rfl rfl rfl rfl rfl rfl rfl rfl rfl (by repeat constructor) (by rfl) ?_) | (refine WL.bd rfl rfl rfl rfl rfl ?_) | (refine WL.bs rfl rfl rfl rfl rfl rfl rfl rfl ?_; intro g) | (refine R.scope ?_) | (refine R.label ?_))
    refine R.retC rfl rfl rfl (by repeat constructor) (by rfl) (S2 := [_]) (List.Sublist.cons_cons _ (List.nil_sublist _)) fun hm => ⟨go, gc, ls, ?_, ?_, hfr, ?_⟩
    · rw [hk0]
    · rw [hk0]
    · rw [hp, List.take_length]
end Go.Proofs.Ytaaiimlaklpjpaa
