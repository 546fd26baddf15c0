/- Proved: for every image that can be read, the law on an image's levels (all of them are made of the first one, mean by mean, as the document says) returns true, and leaves the image as it was. No condition. -/
import Derived.Test.YtaaiimlaklpjpaaRows
import Derived.Test.YtaaiimlaklpjpaaImgR
import Derived.Test.YtaaiimlaklpjpaaTopI
namespace Go.Proofs.Ytaaiimlaklpjpaa
open Go Go.ChangeShapes Go.WideShapes Go.ChangeAt Go.RowKit Go.Deep
set_option linter.unusedVariables false
set_option maxRecDepth 100000

theorem Try.own : ownKnob Try.prog.godebug = none := by kernel_rfl
theorem Try.laidOut : laidOutB Try.prog = true := by kernel_rfl
theorem Image.of_arg {H : Type} {enc : TypeId × Value → H} {W : World} {base : Nat} {v : Value} {d : DataW H} {p : List MemPlace} (hv : Value.okWide Try.prog W .any base 24 v) (h : DataW.Trod enc Try.prog W 0 (fun _ => true) true 24 v d p) (hw : Light Try.prog 24 d) :
    ∃ (f : Int) (ao : Option Addr) (cap : Nat) (lv : List RL) (ws wt mn mg : Int), v = .agg #[.int .i64 f, .slice ao lv.length cap, .int .i64 ws, .int .i64 wt, .int .i64 mn, .int .i64 mg] ∧ SlM (memOf W) ao lv.length cap (lv.flatMap RL.cells) ∧ (∀ r ∈ lv, r.ok (memOf W)) ∧ lv.length ≤ 4611686018427387904 ∧ ∀ r ∈ lv, r.B.length ≤ 140737488355328 := by
  obtain ⟨cs, rfl, _⟩ := okWide_struct Try.underlying24 hv
  obtain ⟨fuel, hf⟩ := h
  obtain ⟨f, ao, cap, lv, ws, wt, mn, mg, hcs, h1, h2, h3, h4⟩ := open_image (x := (d, p)) hf hw
  refine ⟨f, ao, cap, lv, ws, wt, mn, mg, ?_, h1, h2, h3, h4⟩
  have hc : cs.toList = _ := hcs
  rw [← Array.toArray_toList (xs := cs), hc]

set_option maxHeartbeats 1000000
theorem makes_lifted (os : Os) (started : os.Started) (H : Type) (enc : TypeId × Value → H) :
    ReturnsInHanded {} Try.checked os 3 .any (Rows.imageMakesSpec.pre6 enc Try.prog Try.f3 Rows.imageMakesRow.domain false) (Rows.imageMakesSpec.post enc Try.prog Try.f3 false true false false) := by
  refine law_lifted (C := Try.checked) (tb := 4) Try.own started (by kernel_rfl) Try.func3
    (ChangeSpec.witness6 (enc := enc) (C := Try.checked) false ⟨#[], #[.agg #[.int .i64 0, .slice none 0 0, .int .i64 0, .int .i64 0, .int .i64 0, .int .i64 0]], []⟩ 8 (by kernel_rfl) (by kernel_rfl) (by kernel_rfl) (by kernel_rfl))
    Try.laidOut ?_ rfl rfl (by kernel_rfl) Try.underlying4 ?_ ?_
  · intro t ht
    rw [Try.params3] at ht
    obtain rfl : t = 24 := by simpa using ht
    exact ⟨by kernel_rfl, of_decide_eq_true (by kernel_rfl)⟩
  · intro ds hds
    rw [Try.params3] at hds
    match ds, hds with
    | [d], _ => rfl
  · intro W base args ds p hval hA hwt
    rw [Try.params3] at hval hA hwt
    obtain ⟨v0, d0, rfl, rfl, h0⟩ := trodAll_one hA
    obtain ⟨f, ao, cap, lv, ws, wt, mn, mg, rfl, h1, h2, h3, h4⟩ := Image.of_arg (hval 0 _ v0 rfl rfl) h0 (weightsEach_mem hwt 0 _ _ rfl rfl)
    exact makes_fn f ao cap lv ws wt mn mg (memOf W) h1 h2 h3 h4

theorem makes_holds : Rows.ImageMakesSaid :=
  OpenClaim.holds_of_wide 3 Try.f3 rfl rfl rfl rfl rfl rfl rfl ⟨rfl, rfl, rfl, rfl, rfl⟩ rfl rfl rfl rfl rfl (by kernel_rfl) Try.func3 (by kernel_rfl)
    (of_decide_eq_true (by kernel_rfl)) (by unfold Func.isWrapper; first | (rw [if_pos (by decide +kernel)]; kernel_rfl) | (rw [if_neg (by decide +kernel)]; exact ⟨rfl, rfl⟩))
    (fun os started H enc _ => makes_lifted os started H enc)
end Go.Proofs.Ytaaiimlaklpjpaa
