/- The engine, twelfth part: make of an empty slice with room. No condition. -/
import Derived.Test.YtaaiimlaklpjpaaEngK
namespace Go.Proofs.Ytaaiimlaklpjpaa
open Go
set_option linter.unusedVariables false
section
variable {P : Program} [G : Prg P] {fn : Func} {N : Nat} {Rf : Ending → World → Prop} {w0 : World} {X : List Nat} {M0 : Mem} {k : List It} {e : Env} {S : List Own} {M : Mem} {ops : Array Oper} {rest : List Oper} {o : Oper} {d : Nat}
/-- make([]T, 0, c): an empty row of one's own. -/
theorem OpW.make0 {t el : Nat} {td de : TD} {l c : Operand} {kl kc : IntKind} {n : Nat} (ho : o.op = .makeSlice t l c) (hd : o.dst = some d) (hN : Nat.blt d N = true) (ht : tlook G.T t = some td) (hdd : td.desc = .slice el) (he : tlook G.T el = some de)
    (hl : ev e l = some (.int kl 0)) (hc : ev e c = some (.int kc (n : Int))) (hb : de.bytes * n ≤ 281474976710656) (h63 : n ≤ 9223372036854775807) :
    OpW P N w0 X M0 o e S M (fun e' S' M' => ∃ g, e' = (d, rowV (some g) 0 n) :: e ∧ S' = .row (some g) n el de.size 0 [] :: S ∧ M' = M) := by
  intro a w K Q hf hs hK
  obtain ⟨i, hi, his, hib, hiz⟩ := Prg.info he
  have hut : P.underlying t = some (.slice el) := by rw [Prg.under ht, hdd]
  obtain ⟨w', hrun, hown, hgr⟩ := run_make_own (P := P) w 0 t el i de.zero de.size hut hi hiz his kl kc n (by rw [hib]; exact hb) (by simp only [maxLen]; omega) (Nat.zero_le _)
  have hst : St w0 X M0 (.row (some w.heap.size) n el de.size 0 [] :: S) M w' := by
    have h0 : St w0 X M0 (.row none 0 el de.size 0 [] :: S) M w := hs.addnil el de.size
    exact h0.move (g := w.heap.size) rfl (Nat.le_refl _) hown hgr.os hgr.tape hgr.output hgr.size (fun b hb _ => hgr.block b hb (by simp))
  have := hK _ _ _ (a.put o.dst (rowV (some w.heap.size) 0 n)) w' ⟨w.heap.size, rfl, rfl, rfl⟩ (by rw [hd]; exact hf.put hN _) hst
  unfold Oper.wp
  simp only [execOp, ho, hf.eval hl, hf.eval hc, Sem.run_bind, hrun, Result.andThen_ok, Sem.run_pure, Oper.upon]
  exact this
theorem WL.mk0 {t el : Nat} {td de : TD} {l c : Operand} {kl kc : IntKind} {n : Nat} (hg : o.guard = none) (hd : o.dst = some d) (hN : Nat.blt d N = true) (ho : o.op = .makeSlice t l c) (ht : tlook G.T t = some td) (hdd : td.desc = .slice el) (he : tlook G.T el = some de)
    (hl : ev e l = some (.int kl 0)) (hc : ev e c = some (.int kc (n : Int))) (hb : de.bytes * n ≤ 281474976710656) (h63 : n ≤ 9223372036854775807)
    (h : ∀ g, WL P fn N Rf w0 X M0 k ops rest ((d, rowV (some g) 0 n) :: e) (.row (some g) n el de.size 0 [] :: S) M) : WL P fn N Rf w0 X M0 k ops (o :: rest) e S M :=
  WL.op hg (OpW.make0 ho hd hN ht hdd he hl hc hb h63) (by rintro _ _ _ ⟨g, rfl, rfl, rfl⟩; exact h g)
omit G in
theorem RD.last2 (j1 j2 : Nat) {F : List Own} {Mf : Mem} {fuel : Nat} {l : Array Bool} (h : RD P fn N Rf w0 X M0 k ops F Mf fuel ((l.setIfInBounds j1 true).setIfInBounds j2 true) e S M) : RD P fn N Rf w0 X M0 k ops F Mf fuel ((l.setIfInBounds j1 true).setIfInBounds j2 true) e S M := h
omit G in
theorem RD.last3 (j1 j2 j3 : Nat) {F : List Own} {Mf : Mem} {fuel : Nat} {l : Array Bool} (h : RD P fn N Rf w0 X M0 k ops F Mf fuel (((l.setIfInBounds j1 true).setIfInBounds j2 true).setIfInBounds j3 true) e S M) : RD P fn N Rf w0 X M0 k ops F Mf fuel (((l.setIfInBounds j1 true).setIfInBounds j2 true).setIfInBounds j3 true) e S M := h
omit G in
theorem RD.last4 (j1 j2 j3 j4 : Nat) {F : List Own} {Mf : Mem} {fuel : Nat} {l : Array Bool} (h : RD P fn N Rf w0 X M0 k ops F Mf fuel ((((l.setIfInBounds j1 true).setIfInBounds j2 true).setIfInBounds j3 true).setIfInBounds j4 true) e S M) : RD P fn N Rf w0 X M0 k ops F Mf fuel ((((l.setIfInBounds j1 true).setIfInBounds j2 true).setIfInBounds j3 true).setIfInBounds j4 true) e S M := h
omit G in
theorem RD.last5 (j1 j2 j3 j4 j5 : Nat) {F : List Own} {Mf : Mem} {fuel : Nat} {l : Array Bool} (h : RD P fn N Rf w0 X M0 k ops F Mf fuel (((((l.setIfInBounds j1 true).setIfInBounds j2 true).setIfInBounds j3 true).setIfInBounds j4 true).setIfInBounds j5 true) e S M) : RD P fn N Rf w0 X M0 k ops F Mf fuel (((((l.setIfInBounds j1 true).setIfInBounds j2 true).setIfInBounds j3 true).setIfInBounds j4 true).setIfInBounds j5 true) e S M := h
omit G in
theorem RD.last6 (j1 j2 j3 j4 j5 j6 : Nat) {F : List Own} {Mf : Mem} {fuel : Nat} {l : Array Bool} (h : RD P fn N Rf w0 X M0 k ops F Mf fuel ((((((l.setIfInBounds j1 true).setIfInBounds j2 true).setIfInBounds j3 true).setIfInBounds j4 true).setIfInBounds j5 true).setIfInBounds j6 true) e S M) : RD P fn N Rf w0 X M0 k ops F Mf fuel ((((((l.setIfInBounds j1 true).setIfInBounds j2 true).setIfInBounds j3 true).setIfInBounds j4 true).setIfInBounds j5 true).setIfInBounds j6 true) e S M := h
omit G in
theorem RD.last7 (j1 j2 j3 j4 j5 j6 j7 : Nat) {F : List Own} {Mf : Mem} {fuel : Nat} {l : Array Bool} (h : RD P fn N Rf w0 X M0 k ops F Mf fuel (((((((l.setIfInBounds j1 true).setIfInBounds j2 true).setIfInBounds j3 true).setIfInBounds j4 true).setIfInBounds j5 true).setIfInBounds j6 true).setIfInBounds j7 true) e S M) : RD P fn N Rf w0 X M0 k ops F Mf fuel (((((((l.setIfInBounds j1 true).setIfInBounds j2 true).setIfInBounds j3 true).setIfInBounds j4 true).setIfInBounds j5 true).setIfInBounds j6 true).setIfInBounds j7 true) e S M := h
omit G in
theorem RD.last8 (j1 j2 j3 j4 j5 j6 j7 j8 : Nat) {F : List Own} {Mf : Mem} {fuel : Nat} {l : Array Bool} (h : RD P fn N Rf w0 X M0 k ops F Mf fuel ((((((((l.setIfInBounds j1 true).setIfInBounds j2 true).setIfInBounds j3 true).setIfInBounds j4 true).setIfInBounds j5 true).setIfInBounds j6 true).setIfInBounds j7 true).setIfInBounds j8 true) e S M) : RD P fn N Rf w0 X M0 k ops F Mf fuel ((((((((l.setIfInBounds j1 true).setIfInBounds j2 true).setIfInBounds j3 true).setIfInBounds j4 true).setIfInBounds j5 true).setIfInBounds j6 true).setIfInBounds j7 true).setIfInBounds j8 true) e S M := h
omit G in
theorem RD.last9 (j1 j2 j3 j4 j5 j6 j7 j8 j9 : Nat) {F : List Own} {Mf : Mem} {fuel : Nat} {l : Array Bool} (h : RD P fn N Rf w0 X M0 k ops F Mf fuel (((((((((l.setIfInBounds j1 true).setIfInBounds j2 true).setIfInBounds j3 true).setIfInBounds j4 true).setIfInBounds j5 true).setIfInBounds j6 true).setIfInBounds j7 true).setIfInBounds j8 true).setIfInBounds j9 true) e S M) : RD P fn N Rf w0 X M0 k ops F Mf fuel (((((((((l.setIfInBounds j1 true).setIfInBounds j2 true).setIfInBounds j3 true).setIfInBounds j4 true).setIfInBounds j5 true).setIfInBounds j6 true).setIfInBounds j7 true).setIfInBounds j8 true).setIfInBounds j9 true) e S M := h
omit G in
/-- Ways that meet again, with the same own blocks. -/
theorem R.joinM {α : Type} {x : Code} (l : List Nat) {kp : Env} (hk : keepS l e some = some kp) (E : α → Env) (MM : α → Mem) (Φ : α → Prop)
    (h1 : ∀ J : Act → World → Prop, (∀ y e' S' M', Φ y → Sub (E y) e' → Sub kp e' → S.Sublist S' → MM y = M' → R P fn N Rf w0 X M0 (.lp J :: k) e' S' M') → R P fn N Rf w0 X M0 (.c x :: .lp J :: k) e S M)
    (h2 : ∀ y, Φ y → R P fn N Rf w0 X M0 k (appK (E y) kp id) S (MM y)) : R P fn N Rf w0 X M0 (.c x :: k) e S M :=
  R.joinK l hk E (fun _ => S) MM Φ h1 h2
omit G in
/-- A call of what owns the last entries. -/
theorem OpW.callE {g : FuncId} {c : Call} {f : Operand} {args : List Operand} {vs cap : List Value} {Sl Sin : List Own} {Post : Value → List Own → Mem → Prop} (ho : o.op = .call c) (hc : c.callee = .value f) (ha : c.args = args.toArray) (hd : o.dst = some d) (hN : Nat.blt d N = true)
    (hcall : ∀ args w, (callFunc g args).run P w = .ok (.enter g args) w) (hf : ev e f = some (.func (.func g) #[] cap.toArray)) (hargs : evK args e (fun l => some (Value.agg l.toArray)) = some (.agg vs.toArray)) (hS : S = Sl ++ Sin) (hfn : Fn P g (vs ++ cap) Sin M Post) :
    OpW P N w0 X M0 o e S M (fun e' S' M' => ∃ v Sout, e' = (d, v) :: e ∧ S' = Sl ++ Sout ∧ Mle M M' ∧ Post v Sout M') := by
  subst hS
  intro a w K Q hfit hs hK
  refine OpW.call ho hc ha hd hN hcall hf hargs (Sin := Sin) (Sr := Sl) rfl hfn a w K Q hfit (hs.perm List.perm_append_comm) ?_
  rintro e' S' M' a' w' ⟨v, Sout, rfl, rfl, hm, hp⟩ hf' hs'
  exact hK _ _ _ _ _ ⟨v, Sout, rfl, rfl, hm, hp⟩ hf' (hs'.perm List.perm_append_comm)
end
end Go.Proofs.Ytaaiimlaklpjpaa
