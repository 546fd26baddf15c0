/- Proved: for every image that can be read, the law that an image of which all levels were made is whole returns true, and leaves the image as it was. No condition. -/
import Derived.Test.YtaaiimlaklpjpaaRows
import Derived.Test.YtaaiimlaklpjpaaImgX
import Derived.Test.YtaaiimlaklpjpaaMakes
namespace Go.Proofs.Ytaaiimlaklpjpaa
open Go Go.ChangeShapes Go.WideShapes Go.ChangeAt Go.RowKit Go.Deep
set_option linter.unusedVariables false
set_option maxRecDepth 100000

set_option maxHeartbeats 1000000
theorem whole_lifted (os : Os) (started : os.Started) (H : Type) (enc : TypeId × Value → H) :
    ReturnsInHanded {} Try.checked os 5 .any (Rows.imageWholeSpec.pre6 enc Try.prog Try.f5 Rows.imageWholeRow.domain false) (Rows.imageWholeSpec.post enc Try.prog Try.f5 false true false false) := by
  refine law_lifted (C := Try.checked) (tb := 4) Try.own started (by kernel_rfl) Try.func5
    (ChangeSpec.witness6 (enc := enc) (C := Try.checked) false ⟨#[], #[.agg #[.int .i64 0, .slice none 0 0, .int .i64 0, .int .i64 0, .int .i64 0, .int .i64 0]], []⟩ 8 (by kernel_rfl) (by kernel_rfl) (by kernel_rfl) (by kernel_rfl))
    Try.laidOut ?_ rfl rfl (by kernel_rfl) Try.underlying4 ?_ ?_
  · intro t ht
    rw [Try.params5] at ht
    obtain rfl : t = 24 := by simpa using ht
    exact ⟨by kernel_rfl, of_decide_eq_true (by kernel_rfl)⟩
  · intro ds hds
    rw [Try.params5] at hds
    match ds, hds with
    | [d], _ => rfl
  · intro W base args ds p hval hA hwt
    rw [Try.params5] at hval hA hwt
    obtain ⟨v0, d0, rfl, rfl, h0⟩ := trodAll_one hA
    obtain ⟨f, ao, cap, lv, ws, wt, mn, mg, rfl, h1, h2, h3, h4⟩ := Image.of_arg (hval 0 _ v0 rfl rfl) h0 (weightsEach_mem hwt 0 _ _ rfl rfl)
    exact whole_fn f ao cap lv ws wt mn mg (memOf W) h1 h2 h3 h4

theorem whole_holds : Rows.ImageWholeSaid :=
  OpenClaim.holds_of_wide 5 Try.f5 rfl rfl rfl rfl rfl rfl rfl ⟨rfl, rfl, rfl, rfl, rfl⟩ rfl rfl rfl rfl rfl (by kernel_rfl) Try.func5 (by kernel_rfl)
    (of_decide_eq_true (by kernel_rfl)) (by unfold Func.isWrapper; first | (rw [if_pos (by decide +kernel)]; kernel_rfl) | (rw [if_neg (by decide +kernel)]; exact ⟨rfl, rfl⟩))
    (fun os started H enc _ => whole_lifted os started H enc)
end Go.Proofs.Ytaaiimlaklpjpaa
