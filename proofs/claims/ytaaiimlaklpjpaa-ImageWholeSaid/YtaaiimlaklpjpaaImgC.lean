/- Contracts: the size of a pixel, whether an image may be. No condition. -/
import Derived.Test.YtaaiimlaklpjpaaImgB
namespace Go.Proofs.Ytaaiimlaklpjpaa
open Go
set_option linter.unusedVariables false
set_option linter.unusedSimpArgs false
set_option maxRecDepth 100000
set_option maxHeartbeats 4000000
attribute [local irreducible] WL R Fn Fv

theorem idxOf_any (p : RL → Bool) (lv : List RL) : decide (0 ≤ idxOf p lv) = lv.any p := by
  unfold idxOf
  cases h : lv.findIdx? p with
  | none =>
    have := List.findIdx?_eq_none_iff.1 h
    simp only [Bool.eq_false_iff.2, show lv.any p = false from List.any_eq_false.2 (fun x hx => by simp [this x hx])]
    decide
  | some i =>
    obtain ⟨hi, h1, _⟩ := List.findIdx?_eq_some_iff_getElem.1 h
    rw [show lv.any p = true from List.any_eq_true.2 ⟨_, List.getElem_mem hi, h1⟩]
    simp

theorem contains_fn {M : Mem} {ao : Option Addr} {cap : Nat} {lv : List RL} (hs : SlM M ao lv.length cap (lv.flatMap RL.cells)) (hlen : lv.length ≤ 4611686018427387904) (K : Nat) (caps : List Value) (p : RL → Bool) (hcall : ∀ args w, (callFunc K args).run Try.prog w = .ok (.enter K args) w)
    (hp : ∀ r ∈ lv, Fv Try.prog K ([r.val] ++ caps) M (.bool (p r))) : Fv Try.prog 52 [.slice ao lv.length cap, .func (.func K) #[] caps.toArray] M (.bool (lv.any p)) := by
  refine Fv.enter (E := [(0, _), (1, _)]) Try.func52 rfl Try.ntmps52 rfl rfl fun w0 => ?_
  repeat' (first | (refine WL.p rfl rfl rfl rfl rfl ?_) | (refine WL.nil ?_) | (refine R.region ?_) | (refine R.seq ?_) | (refine WL.i64 rfl rfl rfl rfl (by omega) ?_) | (refine WL.lb rfl rfl rfl rfl rfl rfl (by repeat constructor) (by rfl) ?_) | (refine WL.yes rfl rfl rfl rfl ?_) | (refine WL.no rfl rfl rfl rfl rfl rfl rfl ?_) | (refine R.block ?_) | (refine R.blk ?_) | (refine R.skip ?_) | (refine R.exit rfl ?_) | (refine R.condT rfl ?_) | (refine R.condF rfl ?_) | (refine R.ret ?_) | (refine WL.al rfl rfl rfl rfl rfl rfl ?_; intro b) | (refine WL.bx rfl rfl rfl rfl rfl rfl ?_; intro b) | (refine WL.sb rfl rfl rfl rfl rfl rfl rfl rfl rfl (by repeat constructor) (by rfl) ?_) | (refine WL.bd rfl rfl rfl rfl rfl ?_) | (refine WL.bs rfl rfl rfl rfl rfl rfl rfl rfl ?_; intro g) | (refine R.scope ?_) | (refine R.label ?_) | (refine WL.cv Try.call66 rfl rfl rfl rfl rfl rfl rfl rfl (index_fn hs hlen K caps p hcall hp) ?_) | ((refine WL.gdP rfl rfl rfl rfl ?_ ?_) <;> intro hg <;> (try (exfalso; omega))) | ((refine WL.gdN rfl rfl rfl rfl ?_ ?_) <;> intro hg <;> (try (exfalso; omega))) | ((refine WL.gd rfl rfl rfl rfl ?_ ?_) <;> intro hg) | ((refine R.condP rfl ?_ ?_) <;> intro hc <;> (try (exfalso; omega))) | ((refine R.condN rfl ?_ ?_) <;> intro hc <;> (try (exfalso; omega))) | ((refine R.cond rfl ?_ ?_) <;> intro hc))
  refine R.retV rfl rfl fun _ => ?_
  rw [← idxOf_any]

def FindPost (n : Int) (v : Value) (M' : Mem) : Prop :=
  if 1 ≤ n ∧ n ≤ 7 then ∃ g, v = .tuple #[.agg #[.int .i64 (sizeI n), .slice (some ⟨g, 0, none⟩) (chans n).length (chans n).length, .int .i32 0, .int .i32 0, .int .i32 0, .int .i32 (alphaF n)], .bool true] ∧ Cells M' g 0 (chanCells (chans n))
  else v = .tuple #[.agg #[.int .i64 0, .slice none 0 0, .int .i32 0, .int .i32 0, .int .i32 0, .int .i32 0], .bool false]

theorem Cells.seg {M : Mem} {b off : Nat} {xs : List Value} (h : Cells M b off xs) (j m : Nat) : Cells M b (off + j) ((xs.drop j).take m) := fun i v hi => by
  rw [Nat.add_assoc]
  refine h _ v ?_
  rw [List.getElem?_take] at hi
  split at hi
  · rwa [List.getElem?_drop] at hi
  · cases hi

theorem find_fn (n : Int) (M : Mem) : Fn Try.prog 61 [.int .i64 n] [] M fun v S' M' => S' = [] ∧ FindPost n v M' := by
  refine Fn.enter (E := [(0, _)]) Try.func61 rfl Try.ntmps61 rfl rfl fun w0 => ?_
  repeat (first | (refine WL.p rfl rfl rfl rfl rfl ?_) | (refine WL.nil ?_) | (refine R.region ?_) | (refine R.seq ?_) | (refine WL.i64 rfl rfl rfl rfl (by omega) ?_) | (refine WL.lb rfl rfl rfl rfl rfl rfl (by repeat constructor) (by rfl) ?_) | (refine WL.yes rfl rfl rfl rfl ?_) | (refine WL.no rfl rfl rfl rfl rfl rfl rfl ?_) | (refine R.block ?_) | (refine R.blk ?_) | (refine R.skip ?_) | (refine R.exit rfl ?_) | (refine R.condT rfl ?_) | (refine R.condF rfl ?_) | (refine R.ret ?_) | (refine WL.al rfl rfl rfl rfl rfl rfl ?_; intro b) | (refine WL.bx rfl rfl rfl rfl rfl rfl ?_; intro b) | (refine WL.sb rfl rfl rfl rfl rfl rfl rfl rfl rfl (by repeat constructor) (by rfl) ?_) | (refine WL.bd rfl rfl rfl rfl rfl ?_) | (refine WL.bs rfl rfl rfl rfl rfl rfl rfl rfl ?_; intro g) | (refine R.scope ?_) | (refine R.label ?_))
  refine WL.call Try.call67 rfl rfl rfl rfl rfl rfl rfl rfl (Sin := []) rfl (formats_fn _) ?_
  rintro v S1 M1 hm ⟨g, g1, g2, g3, g4, g5, g6, g7, rfl, rfl, hc, c1, c2, c3, c4, c5, c6, c7⟩
  by_cases hn : 1 ≤ n ∧ n ≤ 7
  · have hsplit : n = 1 ∨ n = 2 ∨ n = 3 ∨ n = 4 ∨ n = 5 ∨ n = 6 ∨ n = 7 := by omega
    rcases hsplit with rfl | rfl | rfl | rfl | rfl | rfl | rfl
    all_goals
      repeat (first | (refine WL.p rfl rfl rfl rfl rfl ?_) | (refine WL.nil ?_) | (refine R.region ?_) | (refine R.seq ?_) | (refine WL.i64 rfl rfl rfl rfl (by omega) ?_) | (refine WL.lb rfl rfl rfl rfl rfl rfl (by repeat constructor) (by rfl) ?_) | (refine WL.yes rfl rfl rfl rfl ?_) | (refine WL.no rfl rfl rfl rfl rfl rfl rfl ?_) | (refine R.block ?_) | (refine R.blk ?_) | (refine R.skip ?_) | (refine R.exit rfl ?_) | (refine R.condT rfl ?_) | (refine R.condF rfl ?_) | (refine R.ret ?_) | (refine WL.al rfl rfl rfl rfl rfl rfl ?_; intro b) | (refine WL.bx rfl rfl rfl rfl rfl rfl ?_; intro b) | (refine WL.sb rfl rfl rfl rfl rfl rfl rfl rfl rfl (by repeat constructor) (by rfl) ?_) | (refine WL.bd rfl rfl rfl rfl rfl ?_) | (refine WL.bs rfl rfl rfl rfl rfl rfl rfl rfl ?_; intro g) | (refine R.scope ?_) | (refine R.label ?_))
      refine WL.ix _ rfl rfl rfl rfl rfl rfl rfl rfl rfl (by omega) (by omega) rfl ?_
      first | (refine WL.lm rfl rfl rfl rfl rfl rfl (hc.seg 6 6) (by rfl) ?_) | (refine WL.lm rfl rfl rfl rfl rfl rfl (hc.seg 12 6) (by rfl) ?_) | (refine WL.lm rfl rfl rfl rfl rfl rfl (hc.seg 18 6) (by rfl) ?_) | (refine WL.lm rfl rfl rfl rfl rfl rfl (hc.seg 24 6) (by rfl) ?_) | (refine WL.lm rfl rfl rfl rfl rfl rfl (hc.seg 30 6) (by rfl) ?_) | (refine WL.lm rfl rfl rfl rfl rfl rfl (hc.seg 36 6) (by rfl) ?_) | (refine WL.lm rfl rfl rfl rfl rfl rfl (hc.seg 42 6) (by rfl) ?_)
      repeat (first | (refine WL.p rfl rfl rfl rfl rfl ?_) | (refine WL.nil ?_) | (refine R.region ?_) | (refine R.seq ?_) | (refine WL.i64 rfl rfl rfl rfl (by omega) ?_) | (refine WL.lb rfl rfl rfl rfl rfl rfl (by repeat constructor) (by rfl) ?_) | (refine WL.yes rfl rfl rfl rfl ?_) | (refine WL.no rfl rfl rfl rfl rfl rfl rfl ?_) | (refine R.block ?_) | (refine R.blk ?_) | (refine R.skip ?_) | (refine R.exit rfl ?_) | (refine R.condT rfl ?_) | (refine R.condF rfl ?_) | (refine R.ret ?_) | (refine WL.al rfl rfl rfl rfl rfl rfl ?_; intro b) | (refine WL.bx rfl rfl rfl rfl rfl rfl ?_; intro b) | (refine WL.sb rfl rfl rfl rfl rfl rfl rfl rfl rfl (by repeat constructor) (by rfl) ?_) | (refine WL.bd rfl rfl rfl rfl rfl ?_) | (refine WL.bs rfl rfl rfl rfl rfl rfl rfl rfl ?_; intro g) | (refine R.scope ?_) | (refine R.label ?_))
      refine R.retCT rfl rfl rfl rfl (by repeat constructor) (by rfl) (List.nil_sublist _) fun _ => ⟨rfl, ?_⟩
      rw [FindPost, if_pos hn]
    · exact ⟨g1, rfl, c1⟩
    · exact ⟨g2, rfl, c2⟩
    · exact ⟨g3, rfl, c3⟩
    · exact ⟨g4, rfl, c4⟩
    · exact ⟨g5, rfl, c5⟩
    · exact ⟨g6, rfl, c6⟩
    · exact ⟨g7, rfl, c7⟩
  · repeat' (first | (refine WL.p rfl rfl rfl rfl rfl ?_) | (refine WL.nil ?_) | (refine R.region ?_) | (refine R.seq ?_) | (refine WL.i64 rfl rfl rfl rfl (by omega) ?_) | (refine WL.lb rfl rfl rfl rfl rfl rfl (by repeat constructor) (by rfl) ?_) | (refine WL.yes rfl rfl rfl rfl ?_) | (refine WL.no rfl rfl rfl rfl rfl rfl rfl ?_) | (refine R.block ?_) | (refine R.blk ?_) | (refine R.skip ?_) | (refine R.exit rfl ?_) | (refine R.condT rfl ?_) | (refine R.condF rfl ?_) | (refine R.ret ?_) | (refine WL.al rfl rfl rfl rfl rfl rfl ?_; intro b) | (refine WL.bx rfl rfl rfl rfl rfl rfl ?_; intro b) | (refine WL.sb rfl rfl rfl rfl rfl rfl rfl rfl rfl (by repeat constructor) (by rfl) ?_) | (refine WL.bd rfl rfl rfl rfl rfl ?_) | (refine WL.bs rfl rfl rfl rfl rfl rfl rfl rfl ?_; intro g) | (refine R.scope ?_) | (refine R.label ?_) | ((refine WL.gdP rfl rfl rfl rfl ?_ ?_) <;> intro hg <;> (try (exfalso; omega))) | ((refine WL.gdN rfl rfl rfl rfl ?_ ?_) <;> intro hg <;> (try (exfalso; omega))) | ((refine WL.gd rfl rfl rfl rfl ?_ ?_) <;> intro hg) | ((refine R.condP rfl ?_ ?_) <;> intro hc <;> (try (exfalso; omega))) | ((refine R.condN rfl ?_ ?_) <;> intro hc <;> (try (exfalso; omega))) | ((refine R.cond rfl ?_ ?_) <;> intro hc))
    all_goals
      refine R.retCT rfl rfl rfl rfl (by repeat constructor) (by rfl) (List.nil_sublist _) fun _ => ⟨rfl, ?_⟩
      rw [FindPost, if_neg hn]

theorem size_fn (n : Int) (M : Mem) : Fv Try.prog 40 [.int .i64 n] M (.int .i64 (sizeI n)) := by
  refine Fv.enter (E := [(0, _)]) Try.func40 rfl Try.ntmps40 rfl rfl fun w0 => ?_
  repeat (first | (refine WL.p rfl rfl rfl rfl rfl ?_) | (refine WL.nil ?_) | (refine R.region ?_) | (refine R.seq ?_) | (refine WL.i64 rfl rfl rfl rfl (by omega) ?_) | (refine WL.lb rfl rfl rfl rfl rfl rfl (by repeat constructor) (by rfl) ?_) | (refine WL.yes rfl rfl rfl rfl ?_) | (refine WL.no rfl rfl rfl rfl rfl rfl rfl ?_) | (refine R.block ?_) | (refine R.blk ?_) | (refine R.skip ?_) | (refine R.exit rfl ?_) | (refine R.condT rfl ?_) | (refine R.condF rfl ?_) | (refine R.ret ?_) | (refine WL.al rfl rfl rfl rfl rfl rfl ?_; intro b) | (refine WL.bx rfl rfl rfl rfl rfl rfl ?_; intro b) | (refine WL.sb rfl rfl rfl rfl rfl rfl rfl rfl rfl (by repeat constructor) (by rfl) ?_) | (refine WL.bd rfl rfl rfl rfl rfl ?_) | (refine WL.bs rfl rfl rfl rfl rfl rfl rfl rfl ?_; intro g) | (refine R.scope ?_) | (refine R.label ?_))
  refine WL.call Try.call61 rfl rfl rfl rfl rfl rfl rfl rfl (Sin := []) rfl (find_fn _ _) ?_
  rintro v S1 M1 hm ⟨rfl, hv⟩
  unfold FindPost at hv
  split at hv
  · obtain ⟨g, rfl, _⟩ := hv
    repeat (first | (refine WL.p rfl rfl rfl rfl rfl ?_) | (refine WL.nil ?_) | (refine R.region ?_) | (refine R.seq ?_) | (refine WL.i64 rfl rfl rfl rfl (by omega) ?_) | (refine WL.lb rfl rfl rfl rfl rfl rfl (by repeat constructor) (by rfl) ?_) | (refine WL.yes rfl rfl rfl rfl ?_) | (refine WL.no rfl rfl rfl rfl rfl rfl rfl ?_) | (refine R.block ?_) | (refine R.blk ?_) | (refine R.skip ?_) | (refine R.exit rfl ?_) | (refine R.condT rfl ?_) | (refine R.condF rfl ?_) | (refine R.ret ?_) | (refine WL.al rfl rfl rfl rfl rfl rfl ?_; intro b) | (refine WL.bx rfl rfl rfl rfl rfl rfl ?_; intro b) | (refine WL.sb rfl rfl rfl rfl rfl rfl rfl rfl rfl (by repeat constructor) (by rfl) ?_) | (refine WL.bd rfl rfl rfl rfl rfl ?_) | (refine WL.bs rfl rfl rfl rfl rfl rfl rfl rfl ?_; intro g) | (refine R.scope ?_) | (refine R.label ?_))
    refine R.retV rfl rfl fun _ => ?_
    rfl
  · rename_i hn
    subst hv
    repeat (first | (refine WL.p rfl rfl rfl rfl rfl ?_) | (refine WL.nil ?_) | (refine R.region ?_) | (refine R.seq ?_) | (refine WL.i64 rfl rfl rfl rfl (by omega) ?_) | (refine WL.lb rfl rfl rfl rfl rfl rfl (by repeat constructor) (by rfl) ?_) | (refine WL.yes rfl rfl rfl rfl ?_) | (refine WL.no rfl rfl rfl rfl rfl rfl rfl ?_) | (refine R.block ?_) | (refine R.blk ?_) | (refine R.skip ?_) | (refine R.exit rfl ?_) | (refine R.condT rfl ?_) | (refine R.condF rfl ?_) | (refine R.ret ?_) | (refine WL.al rfl rfl rfl rfl rfl rfl ?_; intro b) | (refine WL.bx rfl rfl rfl rfl rfl rfl ?_; intro b) | (refine WL.sb rfl rfl rfl rfl rfl rfl rfl rfl rfl (by repeat constructor) (by rfl) ?_) | (refine WL.bd rfl rfl rfl rfl rfl ?_) | (refine WL.bs rfl rfl rfl rfl rfl rfl rfl rfl ?_; intro g) | (refine R.scope ?_) | (refine R.label ?_))
    refine R.retV rfl rfl fun _ => ?_
    rw [show sizeI n = 0 by unfold sizeI; omega]
end Go.Proofs.Ytaaiimlaklpjpaa
