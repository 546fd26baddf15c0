/- Contracts: image.Same where both images are the same. No condition. -/
import Derived.Test.YtaaiimlaklpjpaaImgV
import Derived.Laws.StructEq
namespace Go.Proofs.Ytaaiimlaklpjpaa
open Go
set_option linter.unusedVariables false
set_option linter.unusedSimpArgs false
set_option maxRecDepth 100000
set_option maxHeartbeats 4000000
attribute [local irreducible] WL R Fn Fv

theorem Ev.restEq {o : Oper} {e : Env} {S : List Own} {M : Mem} {x y : Operand} {a b c d g : Int} (ho : o.op = .binOp .eql 68 x y 68) (hx : ev e x = some (.agg #[.int .i64 a, .int .i64 b, .int .i64 c, .int .i64 d, .int .i64 g])) (hy : ev e y = some (.agg #[.int .i64 a, .int .i64 b, .int .i64 c, .int .i64 d, .int .i64 g])) : Ev Try.prog o e S M (.bool true) := by
  intro N act w hf hrd
  have hu : Try.prog.underlying 68 = some (.struct (Try.prog.fieldsOf 68)) := by simp only [Program.fieldsOf, Try.underlying68]
  simp only [execOp, ho, hf.eval hx, hf.eval hy, run_eqGuard_agg _ _ _ _ _ _ _ Try.eqGuardType68, run_eql_struct, run_equalIn_agg _ _ _ _ _ hu Try.stoodInHeld68, Sem.run_bind, Sem.run_pure, Result.andThen_ok]
  simp only [Program.fieldsOf, Try.underlying68, Op.eqFields]
  simp [go_sem, part, run_equalIn_int _ _ _ .i64 .i64 _ _ Try.underlying3]

theorem Cells.byte {M : Mem} {b off : Nat} {A : List UInt8} (h : Cells M b off (u8s A)) {k : Nat} (hk : k < A.length) : Cells M b (off + k * 1) [.int .u8 A[k].toNat] := by
  intro i v hi
  cases i with
  | zero =>
    simp only [List.getElem?_cons_zero, Option.some.injEq] at hi
    subst hi
    exact h (k * 1) _ (by rw [Nat.mul_one]; exact u8s_get hk)
  | succ i => simp at hi

theorem seq_fn (a b : Option Addr) (ca cb : Nat) (A : List UInt8) (M : Mem) (hA : SlM M a A.length ca (u8s A)) (hB : SlM M b A.length cb (u8s A)) (hl : A.length ≤ 140737488355328) :
    Fv Try.prog 44 [.slice a A.length ca, .slice b A.length cb] M (.bool true) := by
  refine Fv.enter (E := [(0, _), (1, _)]) Try.func44 rfl Try.ntmps44 rfl rfl fun w0 => ?_
  repeat' (first | (refine WL.p rfl rfl rfl rfl rfl ?_) | (refine WL.nil ?_) | (refine R.region ?_) | (refine R.seq ?_) | (refine WL.i64 rfl rfl rfl rfl (by omega) ?_) | (refine WL.lb rfl rfl rfl rfl rfl rfl (by repeat constructor) (by rfl) ?_) | (refine WL.yes rfl rfl rfl rfl ?_) | (refine WL.no rfl rfl rfl rfl rfl rfl rfl ?_) | (refine R.block ?_) | (refine R.blk ?_) | (refine R.skip ?_) | (refine R.exit rfl ?_) | (refine R.condT rfl ?_) | (refine R.condF rfl ?_) | (refine R.ret ?_) | (refine WL.al rfl rfl rfl rfl rfl rfl ?_; intro b) | (refine WL.bx rfl rfl rfl rfl rfl rfl ?_; intro b) | (refine WL.sb rfl rfl rfl rfl rfl rfl rfl rfl rfl (by repeat constructor) (by rfl) ?_) | (refine WL.bd rfl rfl rfl rfl rfl ?_) | (refine WL.bs rfl rfl rfl rfl rfl rfl rfl rfl ?_; intro g) | (refine R.scope ?_) | (refine R.label ?_) | ((refine WL.gdP rfl rfl rfl rfl ?_ ?_) <;> intro hg <;> (try (exfalso; omega))) | ((refine WL.gdN rfl rfl rfl rfl ?_ ?_) <;> intro hg <;> (try (exfalso; omega))) | ((refine WL.gd rfl rfl rfl rfl ?_ ?_) <;> intro hg) | ((refine R.condP rfl ?_ ?_) <;> intro hc <;> (try (exfalso; omega))) | ((refine R.condN rfl ?_ ?_) <;> intro hc <;> (try (exfalso; omega))) | ((refine R.cond rfl ?_ ?_) <;> intro hc))
  refine R.loopK (α := Nat) [0, 1, 12] rfl (fun k => [(13, .int .i64 k)]) (fun _ => []) (fun _ => M) (fun k => k ≤ A.length) (fun k => A.length - k) 0 (Nat.zero_le _) (by repeat (first | refine Sub.cons rfl ?_ | exact Sub.nil _)) (by first | apply List.Sublist.refl | apply List.nil_sublist | apply List.sublist_cons_self | (repeat (first | apply List.Sublist.refl | apply List.nil_sublist | apply List.Sublist.cons_cons | apply List.Sublist.cons))) rfl ?_
  rintro k J hk again
  repeat (first | (refine WL.p rfl rfl rfl rfl rfl ?_) | (refine WL.nil ?_) | (refine R.region ?_) | (refine R.seq ?_) | (refine WL.i64 rfl rfl rfl rfl (by omega) ?_) | (refine WL.lb rfl rfl rfl rfl rfl rfl (by repeat constructor) (by rfl) ?_) | (refine WL.yes rfl rfl rfl rfl ?_) | (refine WL.no rfl rfl rfl rfl rfl rfl rfl ?_) | (refine R.block ?_) | (refine R.blk ?_) | (refine R.skip ?_) | (refine R.exit rfl ?_) | (refine R.condT rfl ?_) | (refine R.condF rfl ?_) | (refine R.ret ?_) | (refine WL.al rfl rfl rfl rfl rfl rfl ?_; intro b) | (refine WL.bx rfl rfl rfl rfl rfl rfl ?_; intro b) | (refine WL.sb rfl rfl rfl rfl rfl rfl rfl rfl rfl (by repeat constructor) (by rfl) ?_) | (refine WL.bd rfl rfl rfl rfl rfl ?_) | (refine WL.bs rfl rfl rfl rfl rfl rfl rfl rfl ?_; intro g) | (refine R.scope ?_) | (refine R.label ?_))
  refine R.condP rfl (fun hlt => ?_) (fun hge => ?_)
  · have hlt' : k < A.length := by omega
    obtain ⟨p, i, rfl, hc⟩ := hA.some (by omega)
    obtain ⟨q, j, rfl, hd⟩ := hB.some (by omega)
    have e1 := hc.byte hlt'
    have e2 := hd.byte hlt'
    clear hc hd hA hB
    dsimp only [appK, id]
    repeat (first | (refine WL.p rfl rfl rfl rfl rfl ?_) | (refine WL.nil ?_) | (refine R.region ?_) | (refine R.seq ?_) | (refine WL.i64 rfl rfl rfl rfl (by omega) ?_) | (refine WL.lb rfl rfl rfl rfl rfl rfl (by repeat constructor) (by rfl) ?_) | (refine WL.yes rfl rfl rfl rfl ?_) | (refine WL.no rfl rfl rfl rfl rfl rfl rfl ?_) | (refine R.block ?_) | (refine R.blk ?_) | (refine R.skip ?_) | (refine R.exit rfl ?_) | (refine R.condT rfl ?_) | (refine R.condF rfl ?_) | (refine R.ret ?_) | (refine WL.al rfl rfl rfl rfl rfl rfl ?_; intro b) | (refine WL.bx rfl rfl rfl rfl rfl rfl ?_; intro b) | (refine WL.sb rfl rfl rfl rfl rfl rfl rfl rfl rfl (by repeat constructor) (by rfl) ?_) | (refine WL.bd rfl rfl rfl rfl rfl ?_) | (refine WL.bs rfl rfl rfl rfl rfl rfl rfl rfl ?_; intro g) | (refine R.scope ?_) | (refine R.label ?_))
    refine R.draw [] (by first | apply List.Sublist.refl | apply List.nil_sublist | apply List.sublist_cons_self | (repeat (first | apply List.Sublist.refl | apply List.nil_sublist | apply List.Sublist.cons_cons | apply List.Sublist.cons))) ?_
    all_goals (refine RD.tk 0 rfl (by kernel_rfl) (by kernel_rfl) (by kernel_rfl) (.no rfl) rfl rfl (Ev.p rfl) ?_)
    all_goals (refine RD.tk 1 rfl (by kernel_rfl) (by kernel_rfl) (by kernel_rfl) (.no rfl) rfl rfl (Ev.p rfl) ?_)
    all_goals (refine RD.tk 2 rfl (by kernel_rfl) (by kernel_rfl) (by kernel_rfl) (.no rfl) rfl rfl (by first | exact Ev.index (j := i + k * 1) rfl rfl rfl rfl rfl rfl (by omega) (by omega) (by show _ + _ * 1 = _; omega) | exact Ev.index (j := j + k * 1) rfl rfl rfl rfl rfl rfl (by omega) (by omega) (by show _ + _ * 1 = _; omega)) ?_)
    all_goals (refine RD.tk 3 rfl (by kernel_rfl) (by kernel_rfl) (by kernel_rfl) (.no rfl) rfl rfl (by first | exact Ev.loadM rfl rfl rfl e1 (by rfl) | exact Ev.loadM rfl rfl rfl e2 (by rfl) | exact Ev.loadB rfl rfl rfl (by repeat constructor) (by rfl)) ?_)
    all_goals (refine RD.tk 4 rfl (by kernel_rfl) (by kernel_rfl) (by kernel_rfl) (.no rfl) rfl rfl (Ev.p rfl) ?_)
    all_goals (refine RD.tk 5 rfl (by kernel_rfl) (by kernel_rfl) (by kernel_rfl) (.no rfl) rfl rfl (Ev.p rfl) ?_)
    all_goals (refine RD.tk 6 rfl (by kernel_rfl) (by kernel_rfl) (by kernel_rfl) (.no rfl) rfl rfl (by first | exact Ev.index (j := i + k * 1) rfl rfl rfl rfl rfl rfl (by omega) (by omega) (by show _ + _ * 1 = _; omega) | exact Ev.index (j := j + k * 1) rfl rfl rfl rfl rfl rfl (by omega) (by omega) (by show _ + _ * 1 = _; omega)) ?_)
    all_goals (refine RD.tk 7 rfl (by kernel_rfl) (by kernel_rfl) (by kernel_rfl) (.no rfl) rfl rfl (by first | exact Ev.loadM rfl rfl rfl e1 (by rfl) | exact Ev.loadM rfl rfl rfl e2 (by rfl) | exact Ev.loadB rfl rfl rfl (by repeat constructor) (by rfl)) ?_)
    all_goals (refine RD.tk 8 rfl (by kernel_rfl) (by kernel_rfl) (by kernel_rfl) (.no rfl) rfl rfl (by first | exact Ev.i64 rfl (by omega) | exact Ev.p rfl) ?_)
    all_goals (refine RD.done (by kernel_rfl) ?_)
    refine R.condN rfl (fun hc => absurd rfl hc) (fun _ => ?_)
    repeat (first | (refine WL.p rfl rfl rfl rfl rfl ?_) | (refine WL.nil ?_) | (refine R.region ?_) | (refine R.seq ?_) | (refine WL.i64 rfl rfl rfl rfl (by omega) ?_) | (refine WL.lb rfl rfl rfl rfl rfl rfl (by repeat constructor) (by rfl) ?_) | (refine WL.yes rfl rfl rfl rfl ?_) | (refine WL.no rfl rfl rfl rfl rfl rfl rfl ?_) | (refine R.block ?_) | (refine R.blk ?_) | (refine R.skip ?_) | (refine R.exit rfl ?_) | (refine R.condT rfl ?_) | (refine R.condF rfl ?_) | (refine R.ret ?_) | (refine WL.al rfl rfl rfl rfl rfl rfl ?_; intro b) | (refine WL.bx rfl rfl rfl rfl rfl rfl ?_; intro b) | (refine WL.sb rfl rfl rfl rfl rfl rfl rfl rfl rfl (by repeat constructor) (by rfl) ?_) | (refine WL.bd rfl rfl rfl rfl rfl ?_) | (refine WL.bs rfl rfl rfl rfl rfl rfl rfl rfl ?_; intro g) | (refine R.scope ?_) | (refine R.label ?_))
    exact again (k + 1) _ _ _ (by omega) (by omega) (by repeat (first | refine Sub.cons rfl ?_ | exact Sub.nil _)) (by repeat (first | refine Sub.cons rfl ?_ | exact Sub.nil _)) (by first | apply List.Sublist.refl | apply List.nil_sublist | apply List.sublist_cons_self | (repeat (first | apply List.Sublist.refl | apply List.nil_sublist | apply List.Sublist.cons_cons | apply List.Sublist.cons))) rfl
  · repeat (first | (refine WL.p rfl rfl rfl rfl rfl ?_) | (refine WL.nil ?_) | (refine R.region ?_) | (refine R.seq ?_) | (refine WL.i64 rfl rfl rfl rfl (by omega) ?_) | (refine WL.lb rfl rfl rfl rfl rfl rfl (by repeat constructor) (by rfl) ?_) | (refine WL.yes rfl rfl rfl rfl ?_) | (refine WL.no rfl rfl rfl rfl rfl rfl rfl ?_) | (refine R.block ?_) | (refine R.blk ?_) | (refine R.skip ?_) | (refine R.exit rfl ?_) | (refine R.condT rfl ?_) | (refine R.condF rfl ?_) | (refine R.ret ?_) | (refine WL.al rfl rfl rfl rfl rfl rfl ?_; intro b) | (refine WL.bx rfl rfl rfl rfl rfl rfl ?_; intro b) | (refine WL.sb rfl rfl rfl rfl rfl rfl rfl rfl rfl (by repeat constructor) (by rfl) ?_) | (refine WL.bd rfl rfl rfl rfl rfl ?_) | (refine WL.bs rfl rfl rfl rfl rfl rfl rfl rfl ?_; intro g) | (refine R.scope ?_) | (refine R.label ?_))
    exact R.retV rfl rfl fun _ => rfl

/-- Both levels as one sees them: the same. -/
theorem same1_fn (W H : Int) (a b : Option Addr) (ca cb : Nat) (A : List UInt8) (M : Mem) (hA : SlM M a A.length ca (u8s A)) (hB : SlM M b A.length cb (u8s A)) (hl : A.length ≤ 140737488355328) :
    Fv Try.prog 43 [.agg #[.int .i64 W, .int .i64 H, .slice a A.length ca], .agg #[.int .i64 W, .int .i64 H, .slice b A.length cb]] M (.bool true) := by
  refine Fv.enter (E := [(0, _), (1, _)]) Try.func43 rfl Try.ntmps43 rfl rfl fun w0 => ?_
  repeat' (first | (refine WL.p rfl rfl rfl rfl rfl ?_) | (refine WL.nil ?_) | (refine R.region ?_) | (refine R.seq ?_) | (refine WL.i64 rfl rfl rfl rfl (by omega) ?_) | (refine WL.lb rfl rfl rfl rfl rfl rfl (by repeat constructor) (by rfl) ?_) | (refine WL.yes rfl rfl rfl rfl ?_) | (refine WL.no rfl rfl rfl rfl rfl rfl rfl ?_) | (refine R.block ?_) | (refine R.blk ?_) | (refine R.skip ?_) | (refine R.exit rfl ?_) | (refine R.condT rfl ?_) | (refine R.condF rfl ?_) | (refine R.ret ?_) | (refine WL.al rfl rfl rfl rfl rfl rfl ?_; intro b) | (refine WL.bx rfl rfl rfl rfl rfl rfl ?_; intro b) | (refine WL.sb rfl rfl rfl rfl rfl rfl rfl rfl rfl (by repeat constructor) (by rfl) ?_) | (refine WL.bd rfl rfl rfl rfl rfl ?_) | (refine WL.bs rfl rfl rfl rfl rfl rfl rfl rfl ?_; intro g) | (refine R.scope ?_) | (refine R.label ?_) | (refine WL.cv Try.call44 rfl rfl rfl rfl rfl rfl rfl rfl (seq_fn _ _ _ _ A M hA hB hl) ?_) | ((refine WL.gdP rfl rfl rfl rfl ?_ ?_) <;> intro hg <;> (try (exfalso; omega))) | ((refine WL.gdN rfl rfl rfl rfl ?_ ?_) <;> intro hg <;> (try (exfalso; omega))) | ((refine WL.gd rfl rfl rfl rfl ?_ ?_) <;> intro hg) | ((refine R.condP rfl ?_ ?_) <;> intro hc <;> (try (exfalso; omega))) | ((refine R.condN rfl ?_ ?_) <;> intro hc <;> (try (exfalso; omega))) | ((refine R.cond rfl ?_ ?_) <;> intro hc))
  exact R.retV rfl rfl fun _ => rfl
/-- Rows of the same levels are found equal by the given function. -/
theorem eqf_fn {M : Mem} {ao ao' : Option Addr} {cap cap' : Nat} {lv lv' : List RL} (hs : SlM M ao lv.length cap (lv.flatMap RL.cells)) (hs' : SlM M ao' lv'.length cap' (lv'.flatMap RL.cells)) (hlen : lv.length ≤ 4611686018427387904) (hp : lv.map RL.p = lv'.map RL.p) (hok : ∀ r ∈ lv, r.ok M) (hok' : ∀ r ∈ lv', r.ok M) (hby : ∀ r ∈ lv, r.B.length ≤ 140737488355328) :
    Fv Try.prog 45 [.slice ao lv.length cap, .slice ao' lv'.length cap', .func (.func 43) #[] #[]] M (.bool true) := by
  have hll : lv'.length = lv.length := by have := congrArg List.length hp; simpa using this.symm
  have hel : ∀ k, (h : k < lv.length) → (lv[k]).p = (lv'[k]'(by omega)).p := by
    intro k h
    have := congrArg (fun l => l[k]?) hp
    simp only [List.getElem?_map, List.getElem?_eq_getElem h, List.getElem?_eq_getElem (show k < lv'.length by omega), Option.map_some, Option.some.injEq] at this
    exact this
  rw [hll]
  refine Fv.enter (E := [(0, _), (1, _), (2, _)]) Try.func45 rfl Try.ntmps45 rfl rfl fun w0 => ?_
  repeat' (first | (refine WL.p rfl rfl rfl rfl rfl ?_) | (refine WL.nil ?_) | (refine R.region ?_) | (refine R.seq ?_) | (refine WL.i64 rfl rfl rfl rfl (by omega) ?_) | (refine WL.lb rfl rfl rfl rfl rfl rfl (by repeat constructor) (by rfl) ?_) | (refine WL.yes rfl rfl rfl rfl ?_) | (refine WL.no rfl rfl rfl rfl rfl rfl rfl ?_) | (refine R.block ?_) | (refine R.blk ?_) | (refine R.skip ?_) | (refine R.exit rfl ?_) | (refine R.condT rfl ?_) | (refine R.condF rfl ?_) | (refine R.ret ?_) | (refine WL.al rfl rfl rfl rfl rfl rfl ?_; intro b) | (refine WL.bx rfl rfl rfl rfl rfl rfl ?_; intro b) | (refine WL.sb rfl rfl rfl rfl rfl rfl rfl rfl rfl (by repeat constructor) (by rfl) ?_) | (refine WL.bd rfl rfl rfl rfl rfl ?_) | (refine WL.bs rfl rfl rfl rfl rfl rfl rfl rfl ?_; intro g) | (refine R.scope ?_) | (refine R.label ?_) | ((refine WL.gdP rfl rfl rfl rfl ?_ ?_) <;> intro hg <;> (try (exfalso; omega))) | ((refine WL.gdN rfl rfl rfl rfl ?_ ?_) <;> intro hg <;> (try (exfalso; omega))) | ((refine WL.gd rfl rfl rfl rfl ?_ ?_) <;> intro hg) | ((refine R.condP rfl ?_ ?_) <;> intro hc <;> (try (exfalso; omega))) | ((refine R.condN rfl ?_ ?_) <;> intro hc <;> (try (exfalso; omega))) | ((refine R.cond rfl ?_ ?_) <;> intro hc))
  refine R.loopK (α := Nat) [0, 1, 2, 15, 16] rfl (fun k => [(17, .int .i64 k)]) (fun _ => []) (fun _ => M) (fun k => k ≤ lv.length) (fun k => lv.length - k) 0 (Nat.zero_le _) (by repeat (first | refine Sub.cons rfl ?_ | exact Sub.nil _)) (by first | apply List.Sublist.refl | apply List.nil_sublist | apply List.sublist_cons_self | (repeat (first | apply List.Sublist.refl | apply List.nil_sublist | apply List.Sublist.cons_cons | apply List.Sublist.cons))) rfl ?_
  rintro k J hk again
  repeat (first | (refine WL.p rfl rfl rfl rfl rfl ?_) | (refine WL.nil ?_) | (refine R.region ?_) | (refine R.seq ?_) | (refine WL.i64 rfl rfl rfl rfl (by omega) ?_) | (refine WL.lb rfl rfl rfl rfl rfl rfl (by repeat constructor) (by rfl) ?_) | (refine WL.yes rfl rfl rfl rfl ?_) | (refine WL.no rfl rfl rfl rfl rfl rfl rfl ?_) | (refine R.block ?_) | (refine R.blk ?_) | (refine R.skip ?_) | (refine R.exit rfl ?_) | (refine R.condT rfl ?_) | (refine R.condF rfl ?_) | (refine R.ret ?_) | (refine WL.al rfl rfl rfl rfl rfl rfl ?_; intro b) | (refine WL.bx rfl rfl rfl rfl rfl rfl ?_; intro b) | (refine WL.sb rfl rfl rfl rfl rfl rfl rfl rfl rfl (by repeat constructor) (by rfl) ?_) | (refine WL.bd rfl rfl rfl rfl rfl ?_) | (refine WL.bs rfl rfl rfl rfl rfl rfl rfl rfl ?_; intro g) | (refine R.scope ?_) | (refine R.label ?_))
  refine R.condP rfl (fun hlt => ?_) (fun hge => ?_)
  · have hlt' : k < lv.length := by omega
    obtain ⟨p, i, rfl, hc⟩ := hs.some (by omega)
    obtain ⟨q, j, rfl, hd⟩ := hs'.some (by omega)
    have e1 := hc.lvl hlt'
    have e2 := hd.lvl (show k < lv'.length by omega)
    have o1 := hok _ (List.getElem_mem hlt')
    have o2 := hok' _ (List.getElem_mem (show k < lv'.length by omega))
    have o3 := hby _ (List.getElem_mem hlt')
    have o4 := hel k hlt'
    clear hc hd hs hs' hel hok hok' hby hp
    generalize lv[k] = x at e1 o1 o3 o4
    generalize lv'[k]'(by omega) = y at e2 o2 o4
    obtain ⟨W, H, xa, xc, B⟩ := x
    obtain ⟨W', H', ya, yc, B'⟩ := y
    simp only [RL.p, Prod.mk.injEq] at o4
    obtain ⟨rfl, rfl, rfl⟩ := o4
    simp only [RL.cells, RL.bytes] at e1 e2
    simp only [RL.ok] at o1 o2
    simp only at o3
    dsimp only [appK, id]
    repeat' (first | (refine WL.ix (i + k * 3) rfl rfl rfl rfl rfl rfl rfl rfl rfl (by omega) (by omega) (by show _ + _ * 3 = _; omega) ?_; refine WL.lm rfl rfl rfl rfl rfl rfl e1 (by rfl) ?_) | (refine WL.ix (j + k * 3) rfl rfl rfl rfl rfl rfl rfl rfl rfl (by omega) (by omega) (by show _ + _ * 3 = _; omega) ?_; refine WL.lm rfl rfl rfl rfl rfl rfl e2 (by rfl) ?_) | (refine WL.cv Try.call43 rfl rfl rfl rfl rfl rfl (cap := []) rfl rfl (same1_fn W H _ _ _ _ B M o1 o2 o3) ?_) | (refine WL.p rfl rfl rfl rfl rfl ?_) | (refine WL.nil ?_) | (refine R.region ?_) | (refine R.seq ?_) | (refine WL.i64 rfl rfl rfl rfl (by omega) ?_) | (refine WL.lb rfl rfl rfl rfl rfl rfl (by repeat constructor) (by rfl) ?_) | (refine WL.yes rfl rfl rfl rfl ?_) | (refine WL.no rfl rfl rfl rfl rfl rfl rfl ?_) | (refine R.block ?_) | (refine R.blk ?_) | (refine R.skip ?_) | (refine R.exit rfl ?_) | (refine R.condT rfl ?_) | (refine R.condF rfl ?_) | (refine R.ret ?_) | (refine WL.al rfl rfl rfl rfl rfl rfl ?_; intro b) | (refine WL.bx rfl rfl rfl rfl rfl rfl ?_; intro b) | (refine WL.sb rfl rfl rfl rfl rfl rfl rfl rfl rfl (by repeat constructor) (by rfl) ?_) | (refine WL.bd rfl rfl rfl rfl rfl ?_) | (refine WL.bs rfl rfl rfl rfl rfl rfl rfl rfl ?_; intro g) | (refine R.scope ?_) | (refine R.label ?_) | ((refine WL.gdP rfl rfl rfl rfl ?_ ?_) <;> intro hg <;> (try (exfalso; omega))) | ((refine WL.gdN rfl rfl rfl rfl ?_ ?_) <;> intro hg <;> (try (exfalso; omega))) | ((refine WL.gd rfl rfl rfl rfl ?_ ?_) <;> intro hg) | ((refine R.condP rfl ?_ ?_) <;> intro hc <;> (try (exfalso; omega))) | ((refine R.condN rfl ?_ ?_) <;> intro hc <;> (try (exfalso; omega))) | ((refine R.cond rfl ?_ ?_) <;> intro hc))
    exact again (k + 1) _ _ _ (by omega) (by omega) (by repeat (first | refine Sub.cons rfl ?_ | exact Sub.nil _)) (by repeat (first | refine Sub.cons rfl ?_ | exact Sub.nil _)) (by first | apply List.Sublist.refl | apply List.nil_sublist | apply List.sublist_cons_self | (repeat (first | apply List.Sublist.refl | apply List.nil_sublist | apply List.Sublist.cons_cons | apply List.Sublist.cons))) rfl
  · repeat (first | (refine WL.p rfl rfl rfl rfl rfl ?_) | (refine WL.nil ?_) | (refine R.region ?_) | (refine R.seq ?_) | (refine WL.i64 rfl rfl rfl rfl (by omega) ?_) | (refine WL.lb rfl rfl rfl rfl rfl rfl (by repeat constructor) (by rfl) ?_) | (refine WL.yes rfl rfl rfl rfl ?_) | (refine WL.no rfl rfl rfl rfl rfl rfl rfl ?_) | (refine R.block ?_) | (refine R.blk ?_) | (refine R.skip ?_) | (refine R.exit rfl ?_) | (refine R.condT rfl ?_) | (refine R.condF rfl ?_) | (refine R.ret ?_) | (refine WL.al rfl rfl rfl rfl rfl rfl ?_; intro b) | (refine WL.bx rfl rfl rfl rfl rfl rfl ?_; intro b) | (refine WL.sb rfl rfl rfl rfl rfl rfl rfl rfl rfl (by repeat constructor) (by rfl) ?_) | (refine WL.bd rfl rfl rfl rfl rfl ?_) | (refine WL.bs rfl rfl rfl rfl rfl rfl rfl rfl ?_; intro g) | (refine R.scope ?_) | (refine R.label ?_))
    exact R.retV rfl rfl fun _ => rfl
/-- Equal images are the same. -/
theorem same_own (x y : OI) (M : Mem) (hx : x.ok M) (hy : y.ok M) (hp : x.p = y.p) : Fv Try.prog 18 [x.val, y.val] M (.bool true) := by
  have g := eqf_fn hx.sl hy.sl (by rw [x.len_rl]; have := hx.len; omega) (by rw [map_rl_p, map_rl_p]; exact congrArg PI.lv hp) hx.rl hy.rl hx.by_
  rw [x.len_rl, y.len_rl] at g
  clear hx hy
  obtain ⟨f, go, gc, ls, ws, wt, mn, mg⟩ := x
  obtain ⟨f', go', gc', ls', ws', wt', mn', mg'⟩ := y
  simp only [OI.p, PI.mk.injEq] at hp
  obtain ⟨rfl, hls, rfl, rfl, rfl, rfl⟩ := hp
  simp only at g
  show Fv _ _ [.agg #[.int .i64 f, rowV go ls.length gc, .int .i64 ws, .int .i64 wt, .int .i64 mn, .int .i64 mg], .agg #[.int .i64 f, rowV go' ls'.length gc', .int .i64 ws, .int .i64 wt, .int .i64 mn, .int .i64 mg]] _ _
  refine Fv.enter (E := [(0, _), (1, _)]) Try.func18 rfl Try.ntmps18 rfl rfl fun w0 => ?_
  repeat' (first | (refine WL.step rfl rfl rfl (Ev.restEq rfl rfl rfl) ?_) | (refine WL.cv Try.call45 rfl rfl rfl rfl rfl rfl rfl rfl g ?_) | (refine WL.p rfl rfl rfl rfl rfl ?_) | (refine WL.nil ?_) | (refine R.region ?_) | (refine R.seq ?_) | (refine WL.i64 rfl rfl rfl rfl (by omega) ?_) | (refine WL.lb rfl rfl rfl rfl rfl rfl (by repeat constructor) (by rfl) ?_) | (refine WL.yes rfl rfl rfl rfl ?_) | (refine WL.no rfl rfl rfl rfl rfl rfl rfl ?_) | (refine R.block ?_) | (refine R.blk ?_) | (refine R.skip ?_) | (refine R.exit rfl ?_) | (refine R.condT rfl ?_) | (refine R.condF rfl ?_) | (refine R.ret ?_) | (refine WL.al rfl rfl rfl rfl rfl rfl ?_; intro b) | (refine WL.bx rfl rfl rfl rfl rfl rfl ?_; intro b) | (refine WL.sb rfl rfl rfl rfl rfl rfl rfl rfl rfl (by repeat constructor) (by rfl) ?_) | (refine WL.bd rfl rfl rfl rfl rfl ?_) | (refine WL.bs rfl rfl rfl rfl rfl rfl rfl rfl ?_; intro g) | (refine R.scope ?_) | (refine R.label ?_) | ((refine WL.gdP rfl rfl rfl rfl ?_ ?_) <;> intro hg <;> (try (exfalso; omega))) | ((refine WL.gdN rfl rfl rfl rfl ?_ ?_) <;> intro hg <;> (try (exfalso; omega))) | ((refine WL.gd rfl rfl rfl rfl ?_ ?_) <;> intro hg) | ((refine R.condP rfl ?_ ?_) <;> intro hc <;> (try (exfalso; omega))) | ((refine R.condN rfl ?_ ?_) <;> intro hc <;> (try (exfalso; omega))) | ((refine R.cond rfl ?_ ?_) <;> intro hc))
  exact R.retV rfl rfl fun _ => rfl
end Go.Proofs.Ytaaiimlaklpjpaa
