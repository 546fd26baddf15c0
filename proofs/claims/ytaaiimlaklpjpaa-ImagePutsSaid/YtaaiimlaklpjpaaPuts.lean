/- Proved: for every image and every level, its number and its format that can be read, the law on putting a level returns true, and leaves its arguments as they were. No condition. -/
import Derived.Test.YtaaiimlaklpjpaaRows
import Derived.Test.YtaaiimlaklpjpaaImgU
import Derived.Test.YtaaiimlaklpjpaaMakes
namespace Go.Proofs.Ytaaiimlaklpjpaa
open Go Go.ChangeShapes Go.WideShapes Go.ChangeAt Go.RowKit Go.Deep
set_option linter.unusedVariables false
set_option maxRecDepth 100000
set_option maxHeartbeats 1000000

section
variable {H : Type} {enc : TypeId × Value → H} {w : World} {held : Bool}
/-- A struct that stands inside of another one. -/
theorem open_field {P : Program} {t : TypeId} {fs : Array Field} {fuel : Nat} {cs : List Value} {x : DataW H × List MemPlace} (ht : P.underlying t = some (.struct fs)) (h : DataW.trod enc P w 0 (fun _ => true) held fuel t cs = some x) (hw : Light P t x.1) {j : Nat} {f : Field} (hj : fs[j]? = some f) :
    cs.length = P.cellsOf t ∧ ∃ (n : Nat) (y : DataW H × List MemPlace), DataW.trod enc P w 0 (fun _ => true) held n f.type ((cs.drop f.offset).take (P.cellsOf f.type)) = some y ∧ Light P f.type y.1 := by
  obtain ⟨ys, n, _, hx, hlen, hyl, hf⟩ := DataW.trod_struct ht h
  subst hx
  have hjl : j < fs.size := (Array.getElem?_eq_some_iff.1 hj).1
  have hys : ys[j]? = some (ys[j]'(by omega)) := List.getElem?_eq_getElem (by omega)
  refine ⟨hlen, n, _, (hf j f hj).trans hys, ?_⟩
  simp only [Light, DataW.weights, ht] at hw
  exact weightsEach_mem hw j f.type _ (by simp [hj]) (by simp [hys])
end
theorem Put.of_arg {H : Type} {enc : TypeId × Value → H} {W : World} {base : Nat} {v : Value} {d : DataW H} {p : List MemPlace} (hv : Value.okWide Try.prog W .any base 36 v) (h : DataW.Trod enc Try.prog W 0 (fun _ => true) true 36 v d p) (hw : Light Try.prog 36 d) :
    ∃ (level fmt W' H' : Int) (la : Option Addr) (lc : Nat) (B : List UInt8), v = .agg #[.int .i64 level, .int .i64 fmt, .int .i64 W', .int .i64 H', .slice la B.length lc] ∧ SlM (memOf W) la B.length lc (u8s B) := by
  obtain ⟨cs, rfl, _⟩ := okWide_struct Try.underlying36 hv
  obtain ⟨fuel, hf⟩ := h
  obtain ⟨hlen, n0, y0, t0, _⟩ := open_field (x := (d, p)) Try.underlying36 hf hw (j := 0) rfl
  obtain ⟨_, n1, y1, t1, _⟩ := open_field (x := (d, p)) Try.underlying36 hf hw (j := 1) rfl
  obtain ⟨_, n2, y2, t2, l2⟩ := open_field (x := (d, p)) Try.underlying36 hf hw (j := 2) rfl
  rw [show Try.prog.cellsOf 36 = 5 from by kernel_rfl] at hlen
  have hc : (Value.agg cs).cells.toList = cs.toList := rfl
  rw [hc] at hlen t0 t1 t2
  have ci : Try.prog.cellsOf 3 = 1 := by kernel_rfl
  have cl : Try.prog.cellsOf 34 = 3 := by kernel_rfl
  have t0' : DataW.trod enc Try.prog W 0 (fun _ => true) true n0 3 ((cs.toList.drop 0).take (Try.prog.cellsOf 3)) = some y0 := t0
  have t1' : DataW.trod enc Try.prog W 0 (fun _ => true) true n1 3 ((cs.toList.drop 1).take (Try.prog.cellsOf 3)) = some y1 := t1
  have t2' : DataW.trod enc Try.prog W 0 (fun _ => true) true n2 34 ((cs.toList.drop 2).take (Try.prog.cellsOf 34)) = some y2 := t2
  rw [ci] at t0' t1'
  rw [cl] at t2'
  clear t0 t1 t2
  rw [← Array.toArray_toList (xs := cs)]
  match cs.toList, hlen, t0', t1', t2' with
  | [a, b, c, e, g], _, t0, t1, t2 =>
    obtain ⟨level, rfl, _⟩ := open_in Try.underlying3 t0
    obtain ⟨fmt, rfl, _⟩ := open_in Try.underlying3 t1
    obtain ⟨r, hr, hs, _⟩ := open_level t2 l2
    simp only [RL.cells, RL.bytes] at hr
    have hr' : [c, e, g] = [.int .i64 r.W, .int .i64 r.H, .slice r.ao r.B.length r.cap] := hr
    simp only [List.cons.injEq, and_true] at hr'
    obtain ⟨rfl, rfl, rfl⟩ := hr'
    exact ⟨level, fmt, r.W, r.H, r.ao, r.cap, r.B, rfl, hs⟩

theorem puts_lifted (os : Os) (started : os.Started) (H : Type) (enc : TypeId × Value → H) :
    ReturnsInHanded {} Try.checked os 4 .any (Rows.imagePutsSpec.pre6 enc Try.prog Try.f4 Rows.imagePutsRow.domain false) (Rows.imagePutsSpec.post enc Try.prog Try.f4 false true false false) := by
  refine law_lifted (C := Try.checked) (tb := 4) Try.own started (by kernel_rfl) Try.func4
    (ChangeSpec.witness6 (enc := enc) (C := Try.checked) false ⟨#[], #[.agg #[.int .i64 0, .slice none 0 0, .int .i64 0, .int .i64 0, .int .i64 0, .int .i64 0], .agg #[.int .i64 0, .int .i64 0, .int .i64 0, .int .i64 0, .slice none 0 0]], []⟩ 8 (by kernel_rfl) (by kernel_rfl) (by kernel_rfl) (by kernel_rfl))
    Try.laidOut ?_ rfl rfl (by kernel_rfl) Try.underlying4 ?_ ?_
  · intro t ht
    rw [Try.params4] at ht
    have ht' : t = 24 ∨ t = 36 := by simpa using ht
    rcases ht' with rfl | rfl
    · exact ⟨by kernel_rfl, of_decide_eq_true (by kernel_rfl)⟩
    · exact ⟨by kernel_rfl, of_decide_eq_true (by kernel_rfl)⟩
  · intro ds hds
    rw [Try.params4] at hds
    match ds, hds with
    | [d, d'], _ => rfl
  · intro W base args ds p hval hA hwt
    rw [Try.params4] at hval hA hwt
    obtain ⟨v0, v1, d0, d1, p0, p1, rfl, rfl, rfl, h0, h1⟩ := trodAll_two hA
    obtain ⟨f, ao, cap, lv, ws, wt, mn, mg, rfl, a1, a2, a3, a4⟩ := Image.of_arg (hval 0 _ v0 rfl rfl) h0 (weightsEach_mem hwt 0 _ _ rfl rfl)
    obtain ⟨level, fmt, W', H', la, lc, B, rfl, b1⟩ := Put.of_arg (hval 1 _ v1 rfl rfl) h1 (weightsEach_mem hwt 1 _ _ rfl rfl)
    exact puts_fn f ao cap lv ws wt mn mg level fmt W' H' la lc B (memOf W) a1 a2 a3 a4 b1

theorem puts_holds : Rows.ImagePutsSaid :=
  OpenClaim.holds_of_wide 4 Try.f4 rfl rfl rfl rfl rfl rfl rfl ⟨rfl, rfl, rfl, rfl, rfl⟩ rfl rfl rfl rfl rfl (by kernel_rfl) Try.func4 (by kernel_rfl)
    (of_decide_eq_true (by kernel_rfl)) (by unfold Func.isWrapper; first | (rw [if_pos (by decide +kernel)]; kernel_rfl) | (rw [if_neg (by decide +kernel)]; exact ⟨rfl, rfl⟩))
    (fun os started H enc _ => puts_lifted os started H enc)
end Go.Proofs.Ytaaiimlaklpjpaa
