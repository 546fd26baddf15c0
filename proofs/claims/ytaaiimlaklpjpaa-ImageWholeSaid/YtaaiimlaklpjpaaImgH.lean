/- Contracts: powers of 2, channels and bits, a pixel's number. No condition. -/
import Derived.Test.YtaaiimlaklpjpaaImgP
namespace Go.Proofs.Ytaaiimlaklpjpaa
open Go
set_option linter.unusedVariables false
set_option linter.unusedSimpArgs false
set_option maxRecDepth 100000
set_option maxHeartbeats 4000000
attribute [local irreducible] WL R Fn Fv

theorem power_fn (n : Nat) (h1 : 1 ≤ n) (h2 : n ≤ 64) (M : Mem) : Fv Try.prog 31 [.int .i64 n] M (.bool (powB n)) := by
  have h3 := powB_and n (by omega) h1
  have h4 := i64_andN n (n - 1) (by omega) (by omega)
  have h5 : ((n - 1 : Nat) : Int) = (n : Int) - 1 := by omega
  rw [h5] at h4
  refine Fv.enter (E := [(0, _)]) Try.func31 rfl Try.ntmps31 rfl rfl fun w0 => ?_
  repeat' (first | (refine WL.p rfl rfl rfl rfl rfl ?_) | (refine WL.nil ?_) | (refine R.region ?_) | (refine R.seq ?_) | (refine WL.i64 rfl rfl rfl rfl (by omega) ?_) | (refine WL.lb rfl rfl rfl rfl rfl rfl (by repeat constructor) (by rfl) ?_) | (refine WL.yes rfl rfl rfl rfl ?_) | (refine WL.no rfl rfl rfl rfl rfl rfl rfl ?_) | (refine R.block ?_) | (refine R.blk ?_) | (refine R.skip ?_) | (refine R.exit rfl ?_) | (refine R.condT rfl ?_) | (refine R.condF rfl ?_) | (refine R.ret ?_) | (refine WL.al rfl rfl rfl rfl rfl rfl ?_; intro b) | (refine WL.bx rfl rfl rfl rfl rfl rfl ?_; intro b) | (refine WL.sb rfl rfl rfl rfl rfl rfl rfl rfl rfl (by repeat constructor) (by rfl) ?_) | (refine WL.bd rfl rfl rfl rfl rfl ?_) | (refine WL.bs rfl rfl rfl rfl rfl rfl rfl rfl ?_; intro g) | (refine R.scope ?_) | (refine R.label ?_) | ((refine WL.gdP rfl rfl rfl rfl ?_ ?_) <;> intro hg <;> (try (exfalso; omega))) | ((refine WL.gdN rfl rfl rfl rfl ?_ ?_) <;> intro hg <;> (try (exfalso; omega))) | ((refine WL.gd rfl rfl rfl rfl ?_ ?_) <;> intro hg) | ((refine R.condP rfl ?_ ?_) <;> intro hc <;> (try (exfalso; omega))) | ((refine R.condN rfl ?_ ?_) <;> intro hc <;> (try (exfalso; omega))) | ((refine R.cond rfl ?_ ?_) <;> intro hc))
  all_goals refine R.retV rfl rfl fun _ => ?_
  rw [h4, ← h3]
  refine congrArg Value.bool ?_
  rw [Bool.eq_iff_iff]
  simp only [decide_eq_true_eq]
  omega
theorem rpower_fn (n : Nat) (h1 : 1 ≤ n) (h2 : n ≤ 64) (M : Mem) : Fv Try.prog 36 [.int .i64 n] M (.bool (powB n)) := by
  refine Fv.enter (E := [(0, _)]) Try.func36 rfl Try.ntmps36 rfl rfl fun w0 => ?_
  repeat (first | (refine WL.p rfl rfl rfl rfl rfl ?_) | (refine WL.nil ?_) | (refine R.region ?_) | (refine R.seq ?_) | (refine WL.i64 rfl rfl rfl rfl (by omega) ?_) | (refine WL.lb rfl rfl rfl rfl rfl rfl (by repeat constructor) (by rfl) ?_) | (refine WL.yes rfl rfl rfl rfl ?_) | (refine WL.no rfl rfl rfl rfl rfl rfl rfl ?_) | (refine R.block ?_) | (refine R.blk ?_) | (refine R.skip ?_) | (refine R.exit rfl ?_) | (refine R.condT rfl ?_) | (refine R.condF rfl ?_) | (refine R.ret ?_) | (refine WL.al rfl rfl rfl rfl rfl rfl ?_; intro b) | (refine WL.bx rfl rfl rfl rfl rfl rfl ?_; intro b) | (refine WL.sb rfl rfl rfl rfl rfl rfl rfl rfl rfl (by repeat constructor) (by rfl) ?_) | (refine WL.bd rfl rfl rfl rfl rfl ?_) | (refine WL.bs rfl rfl rfl rfl rfl rfl rfl rfl ?_; intro g) | (refine R.scope ?_) | (refine R.label ?_))
  refine R.loop (α := Nat) (fun k => [(0, .int .i64 k)]) (fun _ => []) (fun _ => M) (fun k => 1 ≤ k ∧ k ≤ 64 ∧ powB k = powB n) (fun k => k) n ⟨h1, h2, rfl⟩ (by repeat (first | refine Sub.cons rfl ?_ | exact Sub.nil _)) (by first | apply List.Sublist.refl | apply List.nil_sublist | apply List.sublist_cons_self | (repeat (first | apply List.Sublist.refl | apply List.nil_sublist | apply List.Sublist.cons_cons | apply List.Sublist.cons))) rfl ?_
  rintro k J ⟨hk1, hk2, hk⟩ again
  repeat' (first | (refine WL.p rfl rfl rfl rfl rfl ?_) | (refine WL.nil ?_) | (refine R.region ?_) | (refine R.seq ?_) | (refine WL.i64 rfl rfl rfl rfl (by omega) ?_) | (refine WL.lb rfl rfl rfl rfl rfl rfl (by repeat constructor) (by rfl) ?_) | (refine WL.yes rfl rfl rfl rfl ?_) | (refine WL.no rfl rfl rfl rfl rfl rfl rfl ?_) | (refine R.block ?_) | (refine R.blk ?_) | (refine R.skip ?_) | (refine R.exit rfl ?_) | (refine R.condT rfl ?_) | (refine R.condF rfl ?_) | (refine R.ret ?_) | (refine WL.al rfl rfl rfl rfl rfl rfl ?_; intro b) | (refine WL.bx rfl rfl rfl rfl rfl rfl ?_; intro b) | (refine WL.sb rfl rfl rfl rfl rfl rfl rfl rfl rfl (by repeat constructor) (by rfl) ?_) | (refine WL.bd rfl rfl rfl rfl rfl ?_) | (refine WL.bs rfl rfl rfl rfl rfl rfl rfl rfl ?_; intro g) | (refine R.scope ?_) | (refine R.label ?_) | (refine WL.step rfl rfl rfl (Ev.remN (a := k) (b := 2) rfl rfl rfl (by decide)) ?_) | (refine WL.step rfl rfl rfl (Ev.quoN (a := k) (b := 2) rfl rfl rfl (by decide) (by omega)) ?_) | ((refine WL.gdP rfl rfl rfl rfl ?_ ?_) <;> intro hg <;> (try (exfalso; omega))) | ((refine WL.gdN rfl rfl rfl rfl ?_ ?_) <;> intro hg <;> (try (exfalso; omega))) | ((refine WL.gd rfl rfl rfl rfl ?_ ?_) <;> intro hg) | ((refine R.condP rfl ?_ ?_) <;> intro hc <;> (try (exfalso; omega))) | ((refine R.condN rfl ?_ ?_) <;> intro hc <;> (try (exfalso; omega))) | ((refine R.cond rfl ?_ ?_) <;> intro hc))
  · exact again (k / 2) _ _ _ ⟨by omega, by omega, (powB_half k (by omega) (by omega) (by omega)).symm.trans hk⟩ (by omega) (by repeat (first | refine Sub.cons rfl ?_ | exact Sub.nil _)) (by first | apply List.Sublist.refl | apply List.nil_sublist | apply List.sublist_cons_self | (repeat (first | apply List.Sublist.refl | apply List.nil_sublist | apply List.Sublist.cons_cons | apply List.Sublist.cons))) rfl
  all_goals (refine R.retV rfl rfl fun _ => ?_; rw [← hk, ← powB_end k (by omega) hk1 (by omega)]; refine congrArg Value.bool ?_; rw [Bool.eq_iff_iff]; simp only [decide_eq_true_eq]; omega)

def bitCells (l : List Nat) : List Value := l.map fun (k : Nat) => .int .i64 k
theorem channels_fn (f : Int) (hf : 1 ≤ f ∧ f ≤ 7) (M : Mem) : Fn Try.prog 57 [.int .i64 f] [] M fun v S' M' => ∃ g c, v = rowV (some g) (bitsOf f).length c ∧ S' = [] ∧ Mle M M' ∧ Cells M' g 0 (bitCells (bitsOf f)) ∧ (bitsOf f).length ≤ c := by
  refine Fn.enter (E := [(0, _)]) Try.func57 rfl Try.ntmps57 rfl rfl fun w0 => ?_
  have hsplit : f = 1 ∨ f = 2 ∨ f = 3 ∨ f = 4 ∨ f = 5 ∨ f = 6 ∨ f = 7 := by omega
  rcases hsplit with rfl | rfl | rfl | rfl | rfl | rfl | rfl
  all_goals repeat (first | (refine WL.p rfl rfl rfl rfl rfl ?_) | (refine WL.nil ?_) | (refine R.region ?_) | (refine R.seq ?_) | (refine WL.i64 rfl rfl rfl rfl (by omega) ?_) | (refine WL.lb rfl rfl rfl rfl rfl rfl (by repeat constructor) (by rfl) ?_) | (refine WL.yes rfl rfl rfl rfl ?_) | (refine WL.no rfl rfl rfl rfl rfl rfl rfl ?_) | (refine R.block ?_) | (refine R.blk ?_) | (refine R.skip ?_) | (refine R.exit rfl ?_) | (refine R.condT rfl ?_) | (refine R.condF rfl ?_) | (refine R.ret ?_) | (refine WL.al rfl rfl rfl rfl rfl rfl ?_; intro b) | (refine WL.bx rfl rfl rfl rfl rfl rfl ?_; intro b) | (refine WL.sb rfl rfl rfl rfl rfl rfl rfl rfl rfl (by repeat constructor) (by rfl) ?_) | (refine WL.bd rfl rfl rfl rfl rfl ?_) | (refine WL.bs rfl rfl rfl rfl rfl rfl rfl rfl ?_; intro g) | (refine R.scope ?_) | (refine R.label ?_))
  all_goals (try (refine WL.cv Try.call40 rfl rfl rfl rfl rfl rfl rfl rfl (size_fn _ _) ?_))
  all_goals (try (refine WL.slTo 4 rfl rfl rfl rfl rfl rfl rfl rfl rfl (by decide) ?_))
  all_goals (try (refine WL.slTo 1 rfl rfl rfl rfl rfl rfl rfl rfl rfl (by decide) ?_))
  all_goals (try (refine WL.slTo 2 rfl rfl rfl rfl rfl rfl rfl rfl rfl (by decide) ?_))
  all_goals repeat (first | (refine WL.p rfl rfl rfl rfl rfl ?_) | (refine WL.nil ?_) | (refine R.region ?_) | (refine R.seq ?_) | (refine WL.i64 rfl rfl rfl rfl (by omega) ?_) | (refine WL.lb rfl rfl rfl rfl rfl rfl (by repeat constructor) (by rfl) ?_) | (refine WL.yes rfl rfl rfl rfl ?_) | (refine WL.no rfl rfl rfl rfl rfl rfl rfl ?_) | (refine R.block ?_) | (refine R.blk ?_) | (refine R.skip ?_) | (refine R.exit rfl ?_) | (refine R.condT rfl ?_) | (refine R.condF rfl ?_) | (refine R.ret ?_) | (refine WL.al rfl rfl rfl rfl rfl rfl ?_; intro b) | (refine WL.bx rfl rfl rfl rfl rfl rfl ?_; intro b) | (refine WL.sb rfl rfl rfl rfl rfl rfl rfl rfl rfl (by repeat constructor) (by rfl) ?_) | (refine WL.bd rfl rfl rfl rfl rfl ?_) | (refine WL.bs rfl rfl rfl rfl rfl rfl rfl rfl ?_; intro g) | (refine R.scope ?_) | (refine R.label ?_))
  all_goals refine R.freezeRow Pull.here fun M1 m1 c0 => ?_
  all_goals refine R.ret1 rfl rfl (List.nil_sublist _) fun _ => ⟨_, _, rfl, rfl, m1, fun i v hi => (c0.2.2 _ rfl (.inl (by decide))).2 i v ?_, by decide⟩
  all_goals first | exact hi | skip
  · have h2 : i < 1 := by
      rcases Nat.lt_or_ge i 1 with h | h
      · exact h
      · rw [List.getElem?_eq_none (by exact h)] at hi; cases hi
    obtain rfl : i = 0 := by omega
    exact hi
  · have h2 : i < 1 := by
      rcases Nat.lt_or_ge i 1 with h | h
      · exact h
      · rw [List.getElem?_eq_none (by exact h)] at hi; cases hi
    obtain rfl : i = 0 := by omega
    exact hi
  · have h2 : i < 2 := by
      rcases Nat.lt_or_ge i 2 with h | h
      · exact h
      · rw [List.getElem?_eq_none (by exact h)] at hi; cases hi
    have h3 : i = 0 ∨ i = 1 := by omega
    rcases h3 with rfl | rfl <;> exact hi

theorem or_num (a b k : Nat) (ha : a < 256 ^ k) : a ||| b * 2 ^ (8 * k) = a + b * 256 ^ k := by
  have e : (256 : Nat) ^ k = 2 ^ (8 * k) := by rw [Nat.pow_mul]
  rw [e] at ha ⊢
  rw [Nat.or_comm, nat_join (8 * k) (b * 2 ^ (8 * k)) a (by simp) ha, Nat.add_comm]

theorem number_fn (W H sz x y b2 b5 : Nat) (ao : Option Addr) (cap : Nat) (B : List UInt8) (M : Mem) (hb2 : Cells M b2 0 [.int .i64 W, .int .i64 H, .slice ao B.length cap]) (hb5 : Cells M b5 0 [.int .i64 sz]) (hs : SlM M ao B.length cap (u8s B))
    (hW : W ≤ 64) (hH : H ≤ 64) (hz : 1 ≤ sz) (hz4 : sz ≤ 4) (hB : B.length = W * H * sz) (hx : x < W) (hy : y < H) :
    Fv Try.prog 56 [.int .i64 x, .int .i64 y, .pointer (some ⟨b2, 0, none⟩), .pointer (some ⟨b5, 0, none⟩)] M (.int .u32 (num (pix W B sz x y))) := by
  have hf := hb2.seg 2 1
  have hf0 := hb2.seg 0 1
  have h1 := mul_bd (a := (y : Int)) (b := (W : Int)) (A := 64) (B := 64) (by omega) (by omega) (by omega) (by omega)
  have h2 := mul_bd (a := (y : Int) * W + x) (b := (sz : Int)) (A := 64 * 64 + 64) (B := 4) (by omega) (by omega) (by omega) (by omega)
  obtain ⟨hp, hfit⟩ := pix_length hB hx hy
  have hcap := hs.1
  have hcut : SlM M (if cap = (y * W + x) * sz then ao else ao.map (·.add ((y * W + x) * sz * 1))) sz (cap - (y * W + x) * sz) (u8s (pix W B sz x y)) := by
    have := hs.cut (size := 1) (l := (y * W + x) * sz) (hh := (y * W + x) * sz + sz) (m := cap) (by omega) (by omega) (by omega)
    rw [u8s_drop, u8s_take] at this
    rw [pix]
    simpa only [Nat.mul_one, Nat.add_sub_cancel_left] using this
  obtain ⟨pb, po, hA, hpc⟩ := hcut.some (by omega)
  refine Fv.enter (E := [(0, _), (1, _), (2, _), (3, _)]) Try.func56 rfl Try.ntmps56 rfl rfl fun w0 => ?_
  repeat (first | (refine WL.p rfl rfl rfl rfl rfl ?_) | (refine WL.nil ?_) | (refine R.region ?_) | (refine R.seq ?_) | (refine WL.i64 rfl rfl rfl rfl (by omega) ?_) | (refine WL.lb rfl rfl rfl rfl rfl rfl (by repeat constructor) (by rfl) ?_) | (refine WL.yes rfl rfl rfl rfl ?_) | (refine WL.no rfl rfl rfl rfl rfl rfl rfl ?_) | (refine R.block ?_) | (refine R.blk ?_) | (refine R.skip ?_) | (refine R.exit rfl ?_) | (refine R.condT rfl ?_) | (refine R.condF rfl ?_) | (refine R.ret ?_) | (refine WL.al rfl rfl rfl rfl rfl rfl ?_; intro b) | (refine WL.bx rfl rfl rfl rfl rfl rfl ?_; intro b) | (refine WL.sb rfl rfl rfl rfl rfl rfl rfl rfl rfl (by repeat constructor) (by rfl) ?_) | (refine WL.bd rfl rfl rfl rfl rfl ?_) | (refine WL.bs rfl rfl rfl rfl rfl rfl rfl rfl ?_; intro g) | (refine R.scope ?_) | (refine R.label ?_))
  refine R.draw [] (by first | apply List.Sublist.refl | apply List.nil_sublist | apply List.sublist_cons_self | (repeat (first | apply List.Sublist.refl | apply List.nil_sublist | apply List.Sublist.cons_cons | apply List.Sublist.cons))) ?_
  all_goals (refine RD.tk 0 rfl (by kernel_rfl) (by kernel_rfl) (by kernel_rfl) (.no rfl) rfl rfl (by first | exact Ev.i64 rfl (by omega) | exact Ev.loadM rfl rfl rfl hf (by rfl) | exact Ev.loadM rfl rfl rfl hf0 (by rfl) | exact Ev.loadM rfl rfl rfl hb5 (by rfl) | exact Ev.sliceFrom (l := (y * W + x) * sz) rfl rfl rfl rfl rfl rfl (by omega) | exact Ev.sliceTo (h := sz) rfl rfl rfl rfl rfl rfl (by omega) | exact Ev.p rfl | exact Ev.loadB rfl rfl rfl (by repeat constructor) (by rfl)) ?_)
  all_goals (refine RD.tk 1 rfl (by kernel_rfl) (by kernel_rfl) (by kernel_rfl) (.no rfl) rfl rfl (by first | exact Ev.i64 rfl (by omega) | exact Ev.loadM rfl rfl rfl hf (by rfl) | exact Ev.loadM rfl rfl rfl hf0 (by rfl) | exact Ev.loadM rfl rfl rfl hb5 (by rfl) | exact Ev.sliceFrom (l := (y * W + x) * sz) rfl rfl rfl rfl rfl rfl (by omega) | exact Ev.sliceTo (h := sz) rfl rfl rfl rfl rfl rfl (by omega) | exact Ev.p rfl | exact Ev.loadB rfl rfl rfl (by repeat constructor) (by rfl)) ?_)
  all_goals (refine RD.tk 2 rfl (by kernel_rfl) (by kernel_rfl) (by kernel_rfl) (.no rfl) rfl rfl (by first | exact Ev.i64 rfl (by omega) | exact Ev.loadM rfl rfl rfl hf (by rfl) | exact Ev.loadM rfl rfl rfl hf0 (by rfl) | exact Ev.loadM rfl rfl rfl hb5 (by rfl) | exact Ev.sliceFrom (l := (y * W + x) * sz) rfl rfl rfl rfl rfl rfl (by omega) | exact Ev.sliceTo (h := sz) rfl rfl rfl rfl rfl rfl (by omega) | exact Ev.p rfl | exact Ev.loadB rfl rfl rfl (by repeat constructor) (by rfl)) ?_)
  all_goals (refine RD.tk 3 rfl (by kernel_rfl) (by kernel_rfl) (by kernel_rfl) (.no rfl) rfl rfl (by first | exact Ev.i64 rfl (by omega) | exact Ev.loadM rfl rfl rfl hf (by rfl) | exact Ev.loadM rfl rfl rfl hf0 (by rfl) | exact Ev.loadM rfl rfl rfl hb5 (by rfl) | exact Ev.sliceFrom (l := (y * W + x) * sz) rfl rfl rfl rfl rfl rfl (by omega) | exact Ev.sliceTo (h := sz) rfl rfl rfl rfl rfl rfl (by omega) | exact Ev.p rfl | exact Ev.loadB rfl rfl rfl (by repeat constructor) (by rfl)) ?_)
  all_goals (refine RD.tk 4 rfl (by kernel_rfl) (by kernel_rfl) (by kernel_rfl) (.no rfl) rfl rfl (by first | exact Ev.i64 rfl (by omega) | exact Ev.loadM rfl rfl rfl hf (by rfl) | exact Ev.loadM rfl rfl rfl hf0 (by rfl) | exact Ev.loadM rfl rfl rfl hb5 (by rfl) | exact Ev.sliceFrom (l := (y * W + x) * sz) rfl rfl rfl rfl rfl rfl (by omega) | exact Ev.sliceTo (h := sz) rfl rfl rfl rfl rfl rfl (by omega) | exact Ev.p rfl | exact Ev.loadB rfl rfl rfl (by repeat constructor) (by rfl)) ?_)
  all_goals (refine RD.tk 5 rfl (by kernel_rfl) (by kernel_rfl) (by kernel_rfl) (.no rfl) rfl rfl (by first | exact Ev.i64 rfl (by omega) | exact Ev.loadM rfl rfl rfl hf (by rfl) | exact Ev.loadM rfl rfl rfl hf0 (by rfl) | exact Ev.loadM rfl rfl rfl hb5 (by rfl) | exact Ev.sliceFrom (l := (y * W + x) * sz) rfl rfl rfl rfl rfl rfl (by omega) | exact Ev.sliceTo (h := sz) rfl rfl rfl rfl rfl rfl (by omega) | exact Ev.p rfl | exact Ev.loadB rfl rfl rfl (by repeat constructor) (by rfl)) ?_)
  all_goals (refine RD.tk 6 rfl (by kernel_rfl) (by kernel_rfl) (by kernel_rfl) (.no rfl) rfl rfl (by first | exact Ev.i64 rfl (by omega) | exact Ev.loadM rfl rfl rfl hf (by rfl) | exact Ev.loadM rfl rfl rfl hf0 (by rfl) | exact Ev.loadM rfl rfl rfl hb5 (by rfl) | exact Ev.sliceFrom (l := (y * W + x) * sz) rfl rfl rfl rfl rfl rfl (by omega) | exact Ev.sliceTo (h := sz) rfl rfl rfl rfl rfl rfl (by omega) | exact Ev.p rfl | exact Ev.loadB rfl rfl rfl (by repeat constructor) (by rfl)) ?_)
  all_goals (refine RD.tk 7 rfl (by kernel_rfl) (by kernel_rfl) (by kernel_rfl) (.no rfl) rfl rfl (by first | exact Ev.i64 rfl (by omega) | exact Ev.loadM rfl rfl rfl hf (by rfl) | exact Ev.loadM rfl rfl rfl hf0 (by rfl) | exact Ev.loadM rfl rfl rfl hb5 (by rfl) | exact Ev.sliceFrom (l := (y * W + x) * sz) rfl rfl rfl rfl rfl rfl (by omega) | exact Ev.sliceTo (h := sz) rfl rfl rfl rfl rfl rfl (by omega) | exact Ev.p rfl | exact Ev.loadB rfl rfl rfl (by repeat constructor) (by rfl)) ?_)
  all_goals (refine RD.tk 8 rfl (by kernel_rfl) (by kernel_rfl) (by kernel_rfl) (.no rfl) rfl rfl (by first | exact Ev.i64 rfl (by omega) | exact Ev.loadM rfl rfl rfl hf (by rfl) | exact Ev.loadM rfl rfl rfl hf0 (by rfl) | exact Ev.loadM rfl rfl rfl hb5 (by rfl) | exact Ev.sliceFrom (l := (y * W + x) * sz) rfl rfl rfl rfl rfl rfl (by omega) | exact Ev.sliceTo (h := sz) rfl rfl rfl rfl rfl rfl (by omega) | exact Ev.p rfl | exact Ev.loadB rfl rfl rfl (by repeat constructor) (by rfl)) ?_)
  all_goals (refine RD.tk 9 rfl (by kernel_rfl) (by kernel_rfl) (by kernel_rfl) (.no rfl) rfl rfl (by first | exact Ev.i64 rfl (by omega) | exact Ev.loadM rfl rfl rfl hf (by rfl) | exact Ev.loadM rfl rfl rfl hf0 (by rfl) | exact Ev.loadM rfl rfl rfl hb5 (by rfl) | exact Ev.sliceFrom (l := (y * W + x) * sz) rfl rfl rfl rfl rfl rfl (by omega) | exact Ev.sliceTo (h := sz) rfl rfl rfl rfl rfl rfl (by omega) | exact Ev.p rfl | exact Ev.loadB rfl rfl rfl (by repeat constructor) (by rfl)) ?_)
  all_goals (refine RD.tk 10 rfl (by kernel_rfl) (by kernel_rfl) (by kernel_rfl) (.no rfl) rfl rfl (by first | exact Ev.i64 rfl (by omega) | exact Ev.loadM rfl rfl rfl hf (by rfl) | exact Ev.loadM rfl rfl rfl hf0 (by rfl) | exact Ev.loadM rfl rfl rfl hb5 (by rfl) | exact Ev.sliceFrom (l := (y * W + x) * sz) rfl rfl rfl rfl rfl rfl (by omega) | exact Ev.sliceTo (h := sz) rfl rfl rfl rfl rfl rfl (by omega) | exact Ev.p rfl | exact Ev.loadB rfl rfl rfl (by repeat constructor) (by rfl)) ?_)
  all_goals (refine RD.tk 11 rfl (by kernel_rfl) (by kernel_rfl) (by kernel_rfl) (.no rfl) rfl rfl (by first | exact Ev.i64 rfl (by omega) | exact Ev.loadM rfl rfl rfl hf (by rfl) | exact Ev.loadM rfl rfl rfl hf0 (by rfl) | exact Ev.loadM rfl rfl rfl hb5 (by rfl) | exact Ev.sliceFrom (l := (y * W + x) * sz) rfl rfl rfl rfl rfl rfl (by omega) | exact Ev.sliceTo (h := sz) rfl rfl rfl rfl rfl rfl (by omega) | exact Ev.p rfl | exact Ev.loadB rfl rfl rfl (by repeat constructor) (by rfl)) ?_)
  all_goals (refine RD.tk 12 rfl (by kernel_rfl) (by kernel_rfl) (by kernel_rfl) (.no rfl) rfl rfl (by first | exact Ev.i64 rfl (by omega) | exact Ev.loadM rfl rfl rfl hf (by rfl) | exact Ev.loadM rfl rfl rfl hf0 (by rfl) | exact Ev.loadM rfl rfl rfl hb5 (by rfl) | exact Ev.sliceFrom (l := (y * W + x) * sz) rfl rfl rfl rfl rfl rfl (by omega) | exact Ev.sliceTo (h := sz) rfl rfl rfl rfl rfl rfl (by omega) | exact Ev.p rfl | exact Ev.loadB rfl rfl rfl (by repeat constructor) (by rfl)) ?_)
  all_goals (refine RD.tk 13 rfl (by kernel_rfl) (by kernel_rfl) (by kernel_rfl) (.no rfl) rfl rfl (by first | exact Ev.i64 rfl (by omega) | exact Ev.loadM rfl rfl rfl hf (by rfl) | exact Ev.loadM rfl rfl rfl hf0 (by rfl) | exact Ev.loadM rfl rfl rfl hb5 (by rfl) | exact Ev.sliceFrom (l := (y * W + x) * sz) rfl rfl rfl rfl rfl rfl (by omega) | exact Ev.sliceTo (h := sz) rfl rfl rfl rfl rfl rfl (by omega) | exact Ev.p rfl | exact Ev.loadB rfl rfl rfl (by repeat constructor) (by rfl)) ?_)
  all_goals (refine RD.tk 14 rfl (by kernel_rfl) (by kernel_rfl) (by kernel_rfl) (.no rfl) rfl rfl (by first | exact Ev.i64 rfl (by omega) | exact Ev.loadM rfl rfl rfl hf (by rfl) | exact Ev.loadM rfl rfl rfl hf0 (by rfl) | exact Ev.loadM rfl rfl rfl hb5 (by rfl) | exact Ev.sliceFrom (l := (y * W + x) * sz) rfl rfl rfl rfl rfl rfl (by omega) | exact Ev.sliceTo (h := sz) rfl rfl rfl rfl rfl rfl (by omega) | exact Ev.p rfl | exact Ev.loadB rfl rfl rfl (by repeat constructor) (by rfl)) ?_)
  all_goals (refine RD.done (by kernel_rfl) ?_)
  repeat (first | (refine WL.p rfl rfl rfl rfl rfl ?_) | (refine WL.nil ?_) | (refine R.region ?_) | (refine R.seq ?_) | (refine WL.i64 rfl rfl rfl rfl (by omega) ?_) | (refine WL.lb rfl rfl rfl rfl rfl rfl (by repeat constructor) (by rfl) ?_) | (refine WL.yes rfl rfl rfl rfl ?_) | (refine WL.no rfl rfl rfl rfl rfl rfl rfl ?_) | (refine R.block ?_) | (refine R.blk ?_) | (refine R.skip ?_) | (refine R.exit rfl ?_) | (refine R.condT rfl ?_) | (refine R.condF rfl ?_) | (refine R.ret ?_) | (refine WL.al rfl rfl rfl rfl rfl rfl ?_; intro b) | (refine WL.bx rfl rfl rfl rfl rfl rfl ?_; intro b) | (refine WL.sb rfl rfl rfl rfl rfl rfl rfl rfl rfl (by repeat constructor) (by rfl) ?_) | (refine WL.bd rfl rfl rfl rfl rfl ?_) | (refine WL.bs rfl rfl rfl rfl rfl rfl rfl rfl ?_; intro g) | (refine R.scope ?_) | (refine R.label ?_))
  refine R.same 22 (.slice (some ⟨pb, po, none⟩) sz (cap - (y * W + x) * sz)) rfl (congrArg (fun a => Value.slice a sz (cap - (y * W + x) * sz)) hA) ?_
  refine R.loop (α := Nat) (fun k => [(24, .int .i64 k), (23, .int .i64 sz), (22, .slice (some ⟨pb, po, none⟩) sz (cap - (y * W + x) * sz)), (7, .int .u32 (num ((pix W B sz x y).take k)))]) (fun _ => []) (fun _ => M) (fun k => k ≤ sz) (fun k => sz - k) 0 (Nat.zero_le _) (by repeat (first | refine Sub.cons rfl ?_ | exact Sub.nil _)) (by first | apply List.Sublist.refl | apply List.nil_sublist | apply List.sublist_cons_self | (repeat (first | apply List.Sublist.refl | apply List.nil_sublist | apply List.Sublist.cons_cons | apply List.Sublist.cons))) rfl ?_
  rintro k J hk again
  repeat (first | (refine WL.p rfl rfl rfl rfl rfl ?_) | (refine WL.nil ?_) | (refine R.region ?_) | (refine R.seq ?_) | (refine WL.i64 rfl rfl rfl rfl (by omega) ?_) | (refine WL.lb rfl rfl rfl rfl rfl rfl (by repeat constructor) (by rfl) ?_) | (refine WL.yes rfl rfl rfl rfl ?_) | (refine WL.no rfl rfl rfl rfl rfl rfl rfl ?_) | (refine R.block ?_) | (refine R.blk ?_) | (refine R.skip ?_) | (refine R.exit rfl ?_) | (refine R.condT rfl ?_) | (refine R.condF rfl ?_) | (refine R.ret ?_) | (refine WL.al rfl rfl rfl rfl rfl rfl ?_; intro b) | (refine WL.bx rfl rfl rfl rfl rfl rfl ?_; intro b) | (refine WL.sb rfl rfl rfl rfl rfl rfl rfl rfl rfl (by repeat constructor) (by rfl) ?_) | (refine WL.bd rfl rfl rfl rfl rfl ?_) | (refine WL.bs rfl rfl rfl rfl rfl rfl rfl rfl ?_; intro g) | (refine R.scope ?_) | (refine R.label ?_))
  refine R.condP rfl (fun hlt => ?_) (fun hge => ?_)
  · have hlt' : k < (pix W B sz x y).length := by omega
    have hbt := (pix W B sz x y)[k].toNat_lt
    have hcell : Cells M pb (po + k) [.int .u8 (pix W B sz x y)[k].toNat] := by
      intro i v hi
      cases i with
      | zero => exact hpc k v (by rw [u8s_get hlt']; exact hi)
      | succ i => simp at hi
    have e1 : num ((pix W B sz x y).take (k + 1)) = num ((pix W B sz x y).take k) + (pix W B sz x y)[k].toNat * 256 ^ k := by
      rw [List.take_succ_eq_append_getElem hlt', num_snoc, List.length_take, Nat.min_eq_left (by omega)]
    have e2 : num ((pix W B sz x y).take k) < 256 ^ k := by
      have := num_lt ((pix W B sz x y).take k)
      rwa [List.length_take, Nat.min_eq_left (by omega)] at this
    have e3 : 256 ^ k ≤ 256 ^ 3 := Nat.pow_le_pow_right (by decide) (by omega)
    have e4 : (pix W B sz x y)[k].toNat * 2 ^ (8 * k) ≤ 255 * 2 ^ 24 := Nat.mul_le_mul (by omega) (Nat.pow_le_pow_right (by decide) (by omega))
    have e5 := or_num _ ((pix W B sz x y)[k].toNat) k e2
    repeat' (first | (refine WL.step rfl rfl rfl (Ev.orU (a := num ((pix W B sz x y).take k)) (b := (pix W B sz x y)[k].toNat * 2 ^ (8 * k)) (num ((pix W B sz x y).take (k + 1))) rfl rfl rfl (by omega) (by omega) (e5.trans e1.symm)) ?_) | (refine WL.ix (po + k) rfl rfl rfl rfl rfl rfl rfl rfl rfl (by omega) (by omega) (by show _ + _ * 1 = _; omega) ?_) | (refine WL.lm rfl rfl rfl rfl rfl rfl hcell (by rfl) ?_) | (refine WL.u32 rfl rfl rfl rfl (by omega) ?_) | (refine WL.step rfl rfl rfl (Ev.shlU (a := (pix W B sz x y)[k].toNat) (b := 8 * k) rfl rfl rfl (by omega) (by omega)) ?_) | (refine WL.p rfl rfl rfl rfl rfl ?_) | (refine WL.nil ?_) | (refine R.region ?_) | (refine R.seq ?_) | (refine WL.i64 rfl rfl rfl rfl (by omega) ?_) | (refine WL.lb rfl rfl rfl rfl rfl rfl (by repeat constructor) (by rfl) ?_) | (refine WL.yes rfl rfl rfl rfl ?_) | (refine WL.no rfl rfl rfl rfl rfl rfl rfl ?_) | (refine R.block ?_) | (refine R.blk ?_) | (refine R.skip ?_) | (refine R.exit rfl ?_) | (refine R.condT rfl ?_) | (refine R.condF rfl ?_) | (refine R.ret ?_) | (refine WL.al rfl rfl rfl rfl rfl rfl ?_; intro b) | (refine WL.bx rfl rfl rfl rfl rfl rfl ?_; intro b) | (refine WL.sb rfl rfl rfl rfl rfl rfl rfl rfl rfl (by repeat constructor) (by rfl) ?_) | (refine WL.bd rfl rfl rfl rfl rfl ?_) | (refine WL.bs rfl rfl rfl rfl rfl rfl rfl rfl ?_; intro g) | (refine R.scope ?_) | (refine R.label ?_) | ((refine WL.gdP rfl rfl rfl rfl ?_ ?_) <;> intro hg <;> (try (exfalso; omega))) | ((refine WL.gdN rfl rfl rfl rfl ?_ ?_) <;> intro hg <;> (try (exfalso; omega))) | ((refine WL.gd rfl rfl rfl rfl ?_ ?_) <;> intro hg) | ((refine R.condP rfl ?_ ?_) <;> intro hc <;> (try (exfalso; omega))) | ((refine R.condN rfl ?_ ?_) <;> intro hc <;> (try (exfalso; omega))) | ((refine R.cond rfl ?_ ?_) <;> intro hc))
    exact again (k + 1) _ _ _ (by omega) (by omega) (by repeat (first | refine Sub.cons rfl ?_ | exact Sub.nil _)) (by first | apply List.Sublist.refl | apply List.nil_sublist | apply List.sublist_cons_self | (repeat (first | apply List.Sublist.refl | apply List.nil_sublist | apply List.Sublist.cons_cons | apply List.Sublist.cons))) rfl
  · obtain rfl : k = sz := by omega
    repeat (first | (refine WL.p rfl rfl rfl rfl rfl ?_) | (refine WL.nil ?_) | (refine R.region ?_) | (refine R.seq ?_) | (refine WL.i64 rfl rfl rfl rfl (by omega) ?_) | (refine WL.lb rfl rfl rfl rfl rfl rfl (by repeat constructor) (by rfl) ?_) | (refine WL.yes rfl rfl rfl rfl ?_) | (refine WL.no rfl rfl rfl rfl rfl rfl rfl ?_) | (refine R.block ?_) | (refine R.blk ?_) | (refine R.skip ?_) | (refine R.exit rfl ?_) | (refine R.condT rfl ?_) | (refine R.condF rfl ?_) | (refine R.ret ?_) | (refine WL.al rfl rfl rfl rfl rfl rfl ?_; intro b) | (refine WL.bx rfl rfl rfl rfl rfl rfl ?_; intro b) | (refine WL.sb rfl rfl rfl rfl rfl rfl rfl rfl rfl (by repeat constructor) (by rfl) ?_) | (refine WL.bd rfl rfl rfl rfl rfl ?_) | (refine WL.bs rfl rfl rfl rfl rfl rfl rfl rfl ?_; intro g) | (refine R.scope ?_) | (refine R.label ?_))
    refine R.retV rfl rfl fun _ => ?_
    rw [List.take_of_length_le (by omega)]
end Go.Proofs.Ytaaiimlaklpjpaa
