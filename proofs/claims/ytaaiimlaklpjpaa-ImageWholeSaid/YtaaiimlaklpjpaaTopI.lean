/- An image that is read out of memory. No condition. -/
import Derived.Test.YtaaiimlaklpjpaaTopB
import Derived.Test.YtaaiimlaklpjpaaImgD
namespace Go.Proofs.Ytaaiimlaklpjpaa
open Go Go.ChangeShapes Go.WideShapes Go.ChangeAt Go.RowKit Go.Deep
set_option linter.unusedVariables false
set_option linter.unusedSimpArgs false

section
variable {H : Type} {enc : TypeId × Value → H} {w : World} {held : Bool}
theorem open_level {fuel : Nat} {cs : List Value} {x : DataW H × List MemPlace} (h : DataW.trod enc Try.prog w 0 (fun _ => true) held fuel 34 cs = some x) (hw : Light Try.prog 34 x.1) : ∃ r : RL, cs = r.cells ∧ (r.ok (memOf w) ∧ r.B.length ≤ 140737488351232) := by
  obtain ⟨hlen, hf⟩ := open_st Try.underlying34 (by kernel_rfl) (by kernel_rfl) h hw
  obtain ⟨v0, n0, y0, e0, t0, _⟩ := hf 0 _ rfl
  obtain ⟨v1, n1, y1, e1, t1, _⟩ := hf 1 _ rfl
  obtain ⟨v2, n2, y2, e2, t2, l2⟩ := hf 2 _ rfl
  obtain ⟨W, rfl, _⟩ := open_in Try.underlying3 t0
  obtain ⟨H', rfl, _⟩ := open_in Try.underlying3 t1
  obtain ⟨ao, cap, B, rfl, hs, hb⟩ := open_by Try.underlying32 Try.underlying5 (by kernel_rfl) (by kernel_rfl) t2 l2
  refine ⟨⟨W, H', ao, cap, B⟩, ?_, hs, hb⟩
  match cs, hlen, e0, e1, e2 with
  | [a, b, c], _, e0, e1, e2 =>
    simp only [List.getElem?_cons_zero, List.getElem?_cons_succ, Option.some.injEq] at e0 e1 e2
    subst e0 e1 e2
    rfl
theorem open_image {fuel : Nat} {cs : List Value} {x : DataW H × List MemPlace} (h : DataW.trod enc Try.prog w 0 (fun _ => true) held fuel 24 cs = some x) (hw : Light Try.prog 24 x.1) :
    ∃ (f : Int) (ao : Option Addr) (cap : Nat) (lv : List RL) (ws wt mn mg : Int), cs = [.int .i64 f, .slice ao lv.length cap, .int .i64 ws, .int .i64 wt, .int .i64 mn, .int .i64 mg] ∧ SlM (memOf w) ao lv.length cap (lv.flatMap RL.cells) ∧ (∀ r ∈ lv, r.ok (memOf w)) ∧ lv.length ≤ 4611686018427387904 ∧ ∀ r ∈ lv, r.B.length ≤ 140737488355328 := by
  obtain ⟨hlen, hf⟩ := open_st Try.underlying24 (by kernel_rfl) (by kernel_rfl) h hw
  obtain ⟨v0, n0, y0, e0, t0, _⟩ := hf 0 _ rfl
  obtain ⟨v1, n1, y1, e1, t1, l1⟩ := hf 1 _ rfl
  obtain ⟨v2, n2, y2, e2, t2, _⟩ := hf 2 _ rfl
  obtain ⟨v3, n3, y3, e3, t3, _⟩ := hf 3 _ rfl
  obtain ⟨v4, n4, y4, e4, t4, _⟩ := hf 4 _ rfl
  obtain ⟨v5, n5, y5, e5, t5, _⟩ := hf 5 _ rfl
  obtain ⟨f, rfl, _⟩ := open_in Try.underlying3 t0
  obtain ⟨ws, rfl, _⟩ := open_in Try.underlying3 t2
  obtain ⟨wt, rfl, _⟩ := open_in Try.underlying3 t3
  obtain ⟨mn, rfl, _⟩ := open_in Try.underlying3 t4
  obtain ⟨mg, rfl, _⟩ := open_in Try.underlying3 t5
  obtain ⟨ao, cap, L, hv, _, hs, _, hbd, hel⟩ := open_sl Try.underlying22 (by rw [show Try.prog.cellsOf 34 = 3 from by kernel_rfl]; omega) t1 l1
  obtain ⟨lv, rfl, hlv⟩ := each_map (L := L) (f := RL.cells) (Q := fun r => r.ok (memOf w) ∧ r.B.length ≤ 140737488351232) fun l hl => by
    obtain ⟨n, y, hy, hly⟩ := hel l hl
    exact open_level hy hly
  rw [List.length_map] at hs hv hbd
  rw [show Try.prog.bytesOf 34 = 40 from by kernel_rfl] at hbd
  unfold reachBytes at hbd
  have hv' : v1 = .slice ao lv.length cap := by injection hv
  subst hv'
  refine ⟨f, ao, cap, lv, ws, wt, mn, mg, ?_, by rw [List.flatMap_def]; exact hs, fun r hr => (hlv r hr).1, by omega, fun r hr => by have := (hlv r hr).2; omega⟩
  match cs, hlen, e0, e1, e2, e3, e4, e5 with
  | [a, b, c, d, e, g], _, e0, e1, e2, e3, e4, e5 =>
    simp only [List.getElem?_cons_zero, List.getElem?_cons_succ, Option.some.injEq] at e0 e1 e2 e3 e4 e5
    subst e0 e1 e2 e3 e4 e5
    rfl
end
end Go.Proofs.Ytaaiimlaklpjpaa
