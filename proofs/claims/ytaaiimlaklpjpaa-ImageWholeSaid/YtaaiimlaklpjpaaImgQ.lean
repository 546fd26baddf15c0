/- Contract: the layer wakes. No condition. -/
import Derived.Test.YtaaiimlaklpjpaaImgO
namespace Go.Proofs.Ytaaiimlaklpjpaa
open Go
set_option linter.unusedVariables false
set_option linter.unusedSimpArgs false
set_option maxRecDepth 100000
set_option maxHeartbeats 4000000
attribute [local irreducible] WL R Fn Fv

def wake1 : PI := ⟨5, [(2, 2, [0, 1, 2, 4])], 1, 1, 3, 2⟩
def wake2 : PI := ⟨5, [(2, 2, [0, 1, 2, 4]), (1, 1, [2])], 1, 1, 3, 2⟩
theorem wake_put : putP newP 0 5 (2, 2, [0, 1, 2, 4]) = .ok wake1 := rfl
theorem wake_com1 : completeB wake1 = false := rfl
theorem wake_com2 : completeB wake2 = true := rfl
theorem wake_gen : genP wake1 = .ok wake2 := by
  have h1 : gens 5 2 2 [0, 1, 2, 4] = [(1, 1, [2])] := by
    rw [gens_more (by decide), gens_end (by decide)]; rfl
  have h2 : genP wake1 = .ok { wake1 with lv := (2, 2, [0, 1, 2, 4]) :: gens 5 2 2 [0, 1, 2, 4] } := rfl
  rw [h2, h1]; rfl
theorem map_one {ls : List OL} {a : PL} (h : ls.map OL.p = [a]) : ∃ o, ls = [o] ∧ o.p = a := by
  cases ls with
  | nil => cases h
  | cons o l => cases l with
    | nil => simp only [List.map_cons, List.map_nil, List.cons.injEq, and_true] at h; exact ⟨o, rfl, h⟩
    | cons => simp at h
theorem map_two {ls : List OL} {a b : PL} (h : ls.map OL.p = [a, b]) : ∃ o o', ls = [o, o'] ∧ o.p = a ∧ o'.p = b := by
  cases ls with
  | nil => cases h
  | cons o l =>
    simp only [List.map_cons, List.cons.injEq] at h
    obtain ⟨o', rfl, h2⟩ := map_one h.2
    exact ⟨o, o', rfl, h.1, h2⟩
/-- What was made is an image in memory of its own, once its levels do not turn. -/
theorem OI.mk_ok {x : OI} {M0 M1 M : Mem} (hfr : Fresh M0 M1 x.ls) (hm : Mle M1 M) (hrow : RowM M x.go x.gc 34 3 x.ls.length (x.ls.flatMap OL.cells)) (h1 : x.ls.length ≤ 1000) (h2 : ∀ o ∈ x.ls, o.B.length ≤ 140737488355328) : x.ok M :=
  ⟨hrow, fun o ho => ((hfr.2 o ho).1).mle hm, h1, h2⟩

theorem wakes_fn (M : Mem) : Fn Try.prog 9 [] [] M (fun v S' M' => v = .bool true ∧ S' = []) := by
  refine Fn.enter (E := []) Try.func9 rfl Try.ntmps9 rfl rfl fun w0 => ?_
  repeat (first | (refine WL.p rfl rfl rfl rfl rfl ?_) | (refine WL.nil ?_) | (refine R.region ?_) | (refine R.seq ?_) | (refine WL.i64 rfl rfl rfl rfl (by omega) ?_) | (refine WL.lb rfl rfl rfl rfl rfl rfl (by repeat constructor) (by rfl) ?_) | (refine WL.yes rfl rfl rfl rfl ?_) | (refine WL.no rfl rfl rfl rfl rfl rfl rfl ?_) | (refine R.block ?_) | (refine R.blk ?_) | (refine R.skip ?_) | (refine R.exit rfl ?_) | (refine R.condT rfl ?_) | (refine R.condF rfl ?_) | (refine R.ret ?_) | (refine WL.al rfl rfl rfl rfl rfl rfl ?_; intro b) | (refine WL.bx rfl rfl rfl rfl rfl rfl ?_; intro b) | (refine WL.sb rfl rfl rfl rfl rfl rfl rfl rfl rfl (by repeat constructor) (by rfl) ?_) | (refine WL.bd rfl rfl rfl rfl rfl ?_) | (refine WL.bs rfl rfl rfl rfl rfl rfl rfl rfl ?_; intro g) | (refine R.scope ?_) | (refine R.label ?_))
  refine WL.call Try.call26 rfl rfl rfl rfl rfl rfl rfl rfl (Sin := []) rfl (new_fn _) ?_
  rintro v S1 M1 hm ⟨rfl, rfl, rfl⟩
  repeat (first | (refine WL.p rfl rfl rfl rfl rfl ?_) | (refine WL.nil ?_) | (refine R.region ?_) | (refine R.seq ?_) | (refine WL.i64 rfl rfl rfl rfl (by omega) ?_) | (refine WL.lb rfl rfl rfl rfl rfl rfl (by repeat constructor) (by rfl) ?_) | (refine WL.yes rfl rfl rfl rfl ?_) | (refine WL.no rfl rfl rfl rfl rfl rfl rfl ?_) | (refine R.block ?_) | (refine R.blk ?_) | (refine R.skip ?_) | (refine R.exit rfl ?_) | (refine R.condT rfl ?_) | (refine R.condF rfl ?_) | (refine R.ret ?_) | (refine WL.al rfl rfl rfl rfl rfl rfl ?_; intro b) | (refine WL.bx rfl rfl rfl rfl rfl rfl ?_; intro b) | (refine WL.sb rfl rfl rfl rfl rfl rfl rfl rfl rfl (by repeat constructor) (by rfl) ?_) | (refine WL.bd rfl rfl rfl rfl rfl ?_) | (refine WL.bs rfl rfl rfl rfl rfl rfl rfl rfl ?_; intro g) | (refine R.scope ?_) | (refine R.label ?_))
  refine WL.frz (ao := some g) (cap := 4) (by repeat constructor) fun M2 hm2 hrow hnew => ?_
  have hput := put_core 0 none 0 [] 1 1 3 2 0 5 2 2 (some ⟨g, 0, none⟩) 4 [0, 1, 2, 4] M2 ⟨Nat.le_refl _, fun _ => ⟨rfl, rfl⟩, fun a h => by cases h⟩ (fun r hr => by cases hr) (by simp) (fun r hr => by cases hr) hrow.sl
  rw [show putP ⟨0, List.map RL.p [], 1, 1, 3, 2⟩ 0 5 (2, 2, [0, 1, 2, 4]) = .ok wake1 from wake_put] at hput
  refine WL.call Try.call15 rfl rfl rfl rfl rfl rfl rfl rfl (Sin := []) rfl hput ?_
  rintro v S3 M3 hm3 ⟨v0, rfl, go, gc, ls, rfl, rfl, hfr, hp⟩
  obtain ⟨o, rfl, ho⟩ := map_one hp
  rw [show ([o] : List OL).length = 1 from rfl]
  refine WL.frz (ao := go) (cap := gc) (by repeat constructor) fun M4 hm4 hrow4 hnew4 => ?_
  have hx : OI.ok M4 ⟨5, go, gc, [o], 1, 1, 3, 2⟩ := OI.mk_ok hfr hm4 hrow4 (by simp) (by intro o' h'; rw [List.mem_singleton.1 h']; have := congrArg (fun p : PL => p.2.2.length) ho; simp [OL.p] at this; omega)
  have hxp : OI.p ⟨5, go, gc, [o], 1, 1, 3, 2⟩ = wake1 := by simp only [OI.p, List.map_cons, List.map_nil, ho]; rfl
  have hcom := complete_own _ M4 hx
  have hgen := generate_own _ M4 hx
  rw [hxp, wake_com1] at hcom
  rw [hxp, wake_gen] at hgen
  repeat' (first | (refine WL.p rfl rfl rfl rfl rfl ?_) | (refine WL.nil ?_) | (refine R.region ?_) | (refine R.seq ?_) | (refine WL.i64 rfl rfl rfl rfl (by omega) ?_) | (refine WL.lb rfl rfl rfl rfl rfl rfl (by repeat constructor) (by rfl) ?_) | (refine WL.yes rfl rfl rfl rfl ?_) | (refine WL.no rfl rfl rfl rfl rfl rfl rfl ?_) | (refine R.block ?_) | (refine R.blk ?_) | (refine R.skip ?_) | (refine R.exit rfl ?_) | (refine R.condT rfl ?_) | (refine R.condF rfl ?_) | (refine R.ret ?_) | (refine WL.al rfl rfl rfl rfl rfl rfl ?_; intro b) | (refine WL.bx rfl rfl rfl rfl rfl rfl ?_; intro b) | (refine WL.sb rfl rfl rfl rfl rfl rfl rfl rfl rfl (by repeat constructor) (by rfl) ?_) | (refine WL.bd rfl rfl rfl rfl rfl ?_) | (refine WL.bs rfl rfl rfl rfl rfl rfl rfl rfl ?_; intro g) | (refine R.scope ?_) | (refine R.label ?_) | (refine WL.cv Try.call19 rfl rfl rfl rfl rfl rfl rfl rfl hcom ?_) | ((refine WL.gdP rfl rfl rfl rfl ?_ ?_) <;> intro hg <;> (try (exfalso; omega))) | ((refine WL.gdN rfl rfl rfl rfl ?_ ?_) <;> intro hg <;> (try (exfalso; omega))) | ((refine WL.gd rfl rfl rfl rfl ?_ ?_) <;> intro hg) | ((refine R.condP rfl ?_ ?_) <;> intro hc <;> (try (exfalso; omega))) | ((refine R.condN rfl ?_ ?_) <;> intro hc <;> (try (exfalso; omega))) | ((refine R.cond rfl ?_ ?_) <;> intro hc))
  refine WL.call Try.call12 rfl rfl rfl rfl rfl rfl rfl rfl (Sin := []) rfl hgen ?_
  rintro v S5 M5 hm5 ⟨v0, rfl, go2, gc2, ls2, rfl, rfl, hfr2, hp2⟩
  obtain ⟨o1, o2, rfl, ho1, ho2⟩ := map_two hp2
  rw [show ([o1, o2] : List OL).length = 2 from rfl]
  refine WL.frz (ao := go2) (cap := gc2) (by repeat constructor) fun M6 hm6 hrow6 hnew6 => ?_
  have hy : OI.ok M6 ⟨5, go2, gc2, [o1, o2], 1, 1, 3, 2⟩ := OI.mk_ok hfr2 hm6 hrow6 (by simp) (by
    intro o' h'
    rcases List.mem_cons.1 h' with h' | h'
    · rw [h']; have := congrArg (fun p : PL => p.2.2.length) ho1; simp [OL.p] at this; omega
    · rw [List.mem_singleton.1 h']; have := congrArg (fun p : PL => p.2.2.length) ho2; simp [OL.p] at this; omega)
  have hyp : OI.p ⟨5, go2, gc2, [o1, o2], 1, 1, 3, 2⟩ = wake2 := by simp only [OI.p, List.map_cons, List.map_nil, ho1, ho2]; rfl
  have hcom2 := complete_own _ M6 hy
  rw [hyp, wake_com2] at hcom2
  have hr2 := (hfr2.2 o2 (List.Mem.tail _ (List.Mem.head _))).1.mle hm6
  obtain ⟨W2, H2, g2, c2, B2⟩ := o2
  simp only [OL.p, Prod.mk.injEq] at ho2
  obtain ⟨rfl, rfl, rfl⟩ := ho2
  obtain ⟨gl, rfl⟩ : ∃ g, go2 = some g := by
    cases go2 with
    | none => have := (hrow6.2.1 rfl).1; simp at this
    | some g => exact ⟨g, rfl⟩
  obtain ⟨gb, rfl⟩ : ∃ g, g2 = some g := by
    cases g2 with
    | none => have := (hr2.2.1 rfl).1; simp at this
    | some g => exact ⟨g, rfl⟩
  have hcl : Cells M6 gl (0 + 1 * 3 + 2) [rowV (some gb) 1 c2] := by
    have h1 := (hrow6.sl.2.2 _ rfl (.inr (by simp [OL.cells]))).2
    intro i v hi
    have h2 := h1 (3 + 2 + i) v (by
      cases i with
      | zero => simpa [OL.cells] using hi
      | succ i => simp at hi)
    rwa [show (0 + (3 + 2 + i) : Nat) = 0 + 1 * 3 + 2 + i by omega] at h2
  have hcb : Cells M6 gb (0 + 0 * 1) [.int .u8 2] := (hr2.sl.2.2 _ rfl (.inr (by simp [u8s]))).2
  have hcap : 2 ≤ gc2 := hrow6.len
  have hcap2 : 1 ≤ c2 := hr2.len
  repeat' (first | (refine WL.p rfl rfl rfl rfl rfl ?_) | (refine WL.nil ?_) | (refine R.region ?_) | (refine R.seq ?_) | (refine WL.i64 rfl rfl rfl rfl (by omega) ?_) | (refine WL.lb rfl rfl rfl rfl rfl rfl (by repeat constructor) (by rfl) ?_) | (refine WL.yes rfl rfl rfl rfl ?_) | (refine WL.no rfl rfl rfl rfl rfl rfl rfl ?_) | (refine R.block ?_) | (refine R.blk ?_) | (refine R.skip ?_) | (refine R.exit rfl ?_) | (refine R.condT rfl ?_) | (refine R.condF rfl ?_) | (refine R.ret ?_) | (refine WL.al rfl rfl rfl rfl rfl rfl ?_; intro b) | (refine WL.bx rfl rfl rfl rfl rfl rfl ?_; intro b) | (refine WL.sb rfl rfl rfl rfl rfl rfl rfl rfl rfl (by repeat constructor) (by rfl) ?_) | (refine WL.bd rfl rfl rfl rfl rfl ?_) | (refine WL.bs rfl rfl rfl rfl rfl rfl rfl rfl ?_; intro g) | (refine R.scope ?_) | (refine R.label ?_) | (refine WL.ix (0 + 1 * 3) rfl rfl rfl rfl rfl rfl rfl rfl rfl (by omega) (by omega) (by show _ + _ * 3 = _; omega) ?_) | (refine WL.lm rfl rfl rfl rfl rfl rfl hcl (by rfl) ?_) | (refine WL.ix (0 + 0 * 1) rfl rfl rfl rfl rfl rfl rfl rfl rfl (by omega) (by omega) (by show _ + _ * 1 = _; omega) ?_) | (refine WL.lm rfl rfl rfl rfl rfl rfl hcb (by rfl) ?_) | (refine WL.cv Try.call19 rfl rfl rfl rfl rfl rfl rfl rfl hcom2 ?_) | ((refine WL.gdP rfl rfl rfl rfl ?_ ?_) <;> intro hg <;> (try (exfalso; omega))) | ((refine WL.gdN rfl rfl rfl rfl ?_ ?_) <;> intro hg <;> (try (exfalso; omega))) | ((refine WL.gd rfl rfl rfl rfl ?_ ?_) <;> intro hg) | ((refine R.condP rfl ?_ ?_) <;> intro hc <;> (try (exfalso; omega))) | ((refine R.condN rfl ?_ ?_) <;> intro hc <;> (try (exfalso; omega))) | ((refine R.cond rfl ?_ ?_) <;> intro hc))
  exact R.ret1 rfl rfl (List.nil_sublist _) fun _ => ⟨rfl, rfl⟩
end Go.Proofs.Ytaaiimlaklpjpaa
