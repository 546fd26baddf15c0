/- The engine, seventh part: contracts of functions that only yield a value; loops and cuts for short. No condition. -/
import Derived.Test.YtaaiimlaklpjpaaEngF
namespace Go.Proofs.Ytaaiimlaklpjpaa
open Go
set_option linter.unusedVariables false

/-- The call yields v0 and does nothing that stays. -/
def Fv (P : Program) (f : FuncId) (args : List Value) (M : Mem) (v0 : Value) : Prop := Fn P f args [] M (fun v S' M' => v = v0 ∧ S' = [] ∧ M' = M)

section
variable {P : Program} {fn : Func} {N : Nat} {Rf : Ending → World → Prop} {w0 : World} {X : List Nat} {M0 : Mem} {k : List It} {e : Env} {S : List Own} {M : Mem} {ops : Array Oper} {rest : List Oper} {o : Oper} {d : Nat}

theorem R.weakM {M2 : Mem} (h1 : Mle M2 M) (h2 : Mle M0 M → Mle M0 M2) (h : R P fn N Rf w0 X M0 k e S M2) : R P fn N Rf w0 X M0 k e S M := by
  intro a w hf hs
  refine h a w hf { hs with rd := hs.rd.sub (fun o ho => ho) h1, sep := fun o ho b hb => ?_, ext1 := h2 hs.mle, ext2 := fun b o hb => hs.ext2 b o (h1 b o hb) }
  cases hm : M2 b with
  | none => rfl
  | some x => have h3 := h1 b x hm; rw [hs.sep o ho b hb] at h3; cases h3

theorem Fv.enter {f : FuncId} {c : Code} {args : List Value} {v0 : Value} {E : Env} (hf : P.funcs[f]? = some fn) (hb : fn.body = some c) (hn : fn.ntmps = N) (hl : Nat.ble args.length N = true) (hE : argsE 0 args = E)
    (h : ∀ w0, R P fn N (RfP w0 [] M (fun v S' M' => v = v0 ∧ S' = [] ∧ M' = M)) w0 [] M [.c c] E [] M) : Fv P f args M v0 :=
  Fn.enter hf hb hn hl hE h

theorem R.retV {v0 v : Value} {t : Nat} (hr : fn.results = #[.tmp t]) (ht : look e t = some v) (hv : Mle M0 M → v = v0) : R P fn N (RfP w0 X M0 (fun v S' M' => v = v0 ∧ S' = [] ∧ M' = M0)) w0 X M0 [] e S M :=
  R.mle fun hm => R.weakM hm (fun _ => Mle.refl _) (R.ret1 hr ht (List.nil_sublist _) (fun _ => ⟨hv hm, rfl, rfl⟩))
theorem R.retV2 {v0 v z : Value} {t u : Nat} (hr : fn.results = #[.tmp t, .tmp u]) (ht : look e t = some v) (hu : look e u = some z) (hv : Mle M0 M → .tuple #[v, z] = v0) : R P fn N (RfP w0 X M0 (fun v S' M' => v = v0 ∧ S' = [] ∧ M' = M0)) w0 X M0 [] e S M :=
  R.mle fun hm => R.weakM hm (fun _ => Mle.refl _) (R.ret2 hr ht hu (List.nil_sublist _) (fun _ => ⟨hv hm, rfl, rfl⟩))
theorem R.retVC [G : Prg P] {v0 v : Value} {t ty tb b : Nat} {td : TD} {cs : List Value} (hr : fn.results = #[.cell t ty]) (ht : look e t = some (.pointer (some ⟨b, 0, none⟩))) (hty : tlook G.T ty = some td) (hb : Own.box b cs tb ∈ S) (hrd : readK td 0 cs = some v) (hv : Mle M0 M → v = v0) :
    R P fn N (RfP w0 X M0 (fun v S' M' => v = v0 ∧ S' = [] ∧ M' = M0)) w0 X M0 [] e S M :=
  R.mle fun hm => R.weakM hm (fun _ => Mle.refl _) (R.retC hr ht hty hb hrd (List.nil_sublist _) (fun _ => ⟨hv hm, rfl, rfl⟩))
theorem R.retVCT [G : Prg P] {v0 v z : Value} {t u ty tb b : Nat} {td : TD} {cs : List Value} (hr : fn.results = #[.cell t ty, .tmp u]) (ht : look e t = some (.pointer (some ⟨b, 0, none⟩))) (hu : look e u = some z) (hty : tlook G.T ty = some td) (hb : Own.box b cs tb ∈ S) (hrd : readK td 0 cs = some v) (hv : Mle M0 M → .tuple #[v, z] = v0) :
    R P fn N (RfP w0 X M0 (fun v S' M' => v = v0 ∧ S' = [] ∧ M' = M0)) w0 X M0 [] e S M :=
  R.mle fun hm => R.weakM hm (fun _ => Mle.refl _) (R.retCT hr ht hu hty hb hrd (List.nil_sublist _) (fun _ => ⟨hv hm, rfl, rfl⟩))

/-- A call that only yields a value. -/
theorem WL.cv {g : FuncId} {c : Call} {f : Operand} {args : List Operand} {vs cap : List Value} {v0 : Value} (hcall : ∀ args w, (callFunc g args).run P w = .ok (.enter g args) w)
    (hg : o.guard = none) (hd : o.dst = some d) (hN : Nat.blt d N = true) (ho : o.op = .call c) (hc : c.callee = .value f) (ha : c.args = args.toArray)
    (hf : ev e f = some (.func (.func g) #[] cap.toArray)) (hargs : evK args e (fun l => some (Value.agg l.toArray)) = some (.agg vs.toArray)) (hfn : Fv P g (vs ++ cap) M v0)
    (h : WL P fn N Rf w0 X M0 k ops rest ((d, v0) :: e) S M) : WL P fn N Rf w0 X M0 k ops (o :: rest) e S M :=
  WL.call hcall hg hd hN ho hc ha hf hargs (Sin := []) (Sr := S) rfl hfn (by rintro v S' M' _ ⟨rfl, rfl, rfl⟩; exact h)

theorem Fv.same {f : FuncId} {args : List Value} {v0 v1 : Value} (h : Fv P f args M v0) (hv : v0 = v1) : Fv P f args M v1 := hv ▸ h
end

end Go.Proofs.Ytaaiimlaklpjpaa
