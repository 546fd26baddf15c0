/- The engine, eleventh part: how long a row may be. No condition. -/
import Derived.Test.YtaaiimlaklpjpaaEngJ
namespace Go.Proofs.Ytaaiimlaklpjpaa
open Go
set_option linter.unusedVariables false
section
variable {P : Program} {fn : Func} {N : Nat} {Rf : Ending → World → Prop} {w0 : World} {X : List Nat} {M0 : Mem} {k : List It} {e : Env} {S : List Own} {M : Mem} {ops : Array Oper} {rest : List Oper} {o : Oper} {d : Nat}
theorem Own.row_max {w : World} {ao : Option Nat} {cap el size n : Nat} {xs : List Value} (h : (Own.row ao cap el size n xs).holds w) : n ≤ 9223372036854775807 := by
  have h' : w.ownsRow 0 el size (rowV ao n cap) n xs := h
  rcases h'.2 with ⟨_, rfl⟩ | ⟨g', cap', cur, hv, _, hh, hnc, hcm, _⟩
  · omega
  · unfold maxLen at hcm; omega
theorem R.rowMax {ao : Option Nat} {cap el size n : Nat} {xs : List Value} (hm : Own.row ao cap el size n xs ∈ S) (h : n ≤ 9223372036854775807 → R P fn N Rf w0 X M0 k e S M) : R P fn N Rf w0 X M0 k e S M :=
  fun a w hf hs => h (Own.row_max (hs.rd.own _ hm)) a w hf hs
theorem St.addnil {w : World} (el size : Nat) (hs : St w0 X M0 S M w) : St w0 X M0 (.row none 0 el size 0 [] :: S) M w := by
  refine { hs with rd := ⟨fun o ho => ?_, hs.rd.mem⟩, disj := List.pairwise_cons.2 ⟨(fun o ho b hb => by cases hb), hs.disj⟩, sep := fun o ho b hb => ?_, new := fun o ho b hb => ?_ }
  · rcases List.mem_cons.1 ho with rfl | ho
    · exact World.ownsRow_nil w 0 el size
    · exact hs.rd.own o ho
  · rcases List.mem_cons.1 ho with rfl | ho
    · cases hb
    · exact hs.sep o ho b hb
  · rcases List.mem_cons.1 ho with rfl | ho
    · cases hb
    · exact hs.new o ho b hb
theorem WL.addnilE {l : List Oper} (el size : Nat) (h : WL P fn N Rf w0 X M0 k ops l e (S ++ [.row none 0 el size 0 []]) M) : WL P fn N Rf w0 X M0 k ops l e S M :=
  fun a w hf hs => h a w hf ((hs.addnil el size).perm (List.perm_append_comm (l₁ := S) (l₂ := [.row none 0 el size 0 []])))
/-- Ways that meet again behind a piece of code: what holds there, for a ghost y. -/
theorem R.join {α : Type} {x : Code} (E : α → Env) (SS : α → List Own) (MM : α → Mem) (Φ : α → Prop)
    (h1 : ∀ J : Act → World → Prop, (∀ y e' S' M', Φ y → Sub (E y) e' → (SS y).Sublist S' → MM y = M' → R P fn N Rf w0 X M0 (.lp J :: k) e' S' M') → R P fn N Rf w0 X M0 (.c x :: .lp J :: k) e S M)
    (h2 : ∀ y, Φ y → R P fn N Rf w0 X M0 k (E y) (SS y) (MM y)) : R P fn N Rf w0 X M0 (.c x :: k) e S M := by
  intro a w hf hs
  have := h1 (fun a' w' => ∃ y, Φ y ∧ Fits N (E y) a' ∧ St w0 X M0 (SS y) (MM y) w') (fun y e' S' M' hy hE hSS hMM a' w' hf' hs' => ⟨y, hy, hf'.sub hE, by subst hMM; exact hs'.drop hSS⟩) a w hf hs
  refine Code.wp_mono (fun z a' w' q => ?_) this
  cases z with
  | normal =>
    obtain ⟨y, hy, hf', hs'⟩ := q
    exact h2 y hy a' w' hf' hs'
  | _ => exact q
theorem R.joinK {α : Type} {x : Code} (l : List Nat) {kp : Env} (hk : keepS l e some = some kp) (E : α → Env) (SS : α → List Own) (MM : α → Mem) (Φ : α → Prop)
    (h1 : ∀ J : Act → World → Prop, (∀ y e' S' M', Φ y → Sub (E y) e' → Sub kp e' → (SS y).Sublist S' → MM y = M' → R P fn N Rf w0 X M0 (.lp J :: k) e' S' M') → R P fn N Rf w0 X M0 (.c x :: .lp J :: k) e S M)
    (h2 : ∀ y, Φ y → R P fn N Rf w0 X M0 k (appK (E y) kp id) (SS y) (MM y)) : R P fn N Rf w0 X M0 (.c x :: k) e S M := by
  refine R.join (fun y => E y ++ kp) SS MM Φ (fun J again => h1 J fun y e' S' M' hy hE hK hS hM => again y e' S' M' hy (Sub.app hE hK) hS hM) (fun y hy => ?_)
  have := h2 y hy
  rw [appK_eq] at this
  exact this
/-- Ways that meet again, with the same own blocks and memory, and the slots of l as they are. -/
theorem R.joinE {x : Code} (l : List Nat) {kp : Env} (hk : keepS l e some = some kp)
    (h1 : ∀ J : Act → World → Prop, (∀ e' S', Sub kp e' → S.Sublist S' → R P fn N Rf w0 X M0 (.lp J :: k) e' S' M) → R P fn N Rf w0 X M0 (.c x :: .lp J :: k) e S M)
    (h2 : R P fn N Rf w0 X M0 k kp S M) : R P fn N Rf w0 X M0 (.c x :: k) e S M :=
  R.joinK (α := Unit) l hk (fun _ => []) (fun _ => S) (fun _ => M) (fun _ => True) (fun J again => h1 J fun e' S' hK hS => again () e' S' M trivial (Sub.nil _) hK hS rfl) (fun _ _ => h2)
/-- A call of what owns the last entries. -/
theorem WL.callE {g : FuncId} {c : Call} {f : Operand} {args : List Operand} {vs cap : List Value} {Sl Sin : List Own} {Post : Value → List Own → Mem → Prop} (hcall : ∀ args w, (callFunc g args).run P w = .ok (.enter g args) w)
    (hg : o.guard = none) (hd : o.dst = some d) (hN : Nat.blt d N = true) (ho : o.op = .call c) (hc : c.callee = .value f) (ha : c.args = args.toArray)
    (hf : ev e f = some (.func (.func g) #[] cap.toArray)) (hargs : evK args e (fun l => some (Value.agg l.toArray)) = some (.agg vs.toArray)) (hS : S = Sl ++ Sin) (hfn : Fn P g (vs ++ cap) Sin M Post)
    (h : ∀ v Sout M', Mle M M' → Post v Sout M' → WL P fn N Rf w0 X M0 k ops rest ((d, v) :: e) (Sl ++ Sout) M') : WL P fn N Rf w0 X M0 k ops (o :: rest) e S M := by
  subst hS
  refine WL.perm List.perm_append_comm ?_
  refine WL.call hcall hg hd hN ho hc ha hf hargs (Sin := Sin) (Sr := Sl) rfl hfn (fun v Sout M' hm hp => ?_)
  exact WL.perm List.perm_append_comm (h v Sout M' hm hp)
theorem WL.call0E {g : FuncId} {c : Call} {f : Operand} {args : List Operand} {vs cap : List Value} {Sl Sin : List Own} {Post : Value → List Own → Mem → Prop} (hcall : ∀ args w, (callFunc g args).run P w = .ok (.enter g args) w)
    (hg : o.guard = none) (hd : o.dst = none) (ho : o.op = .call c) (hc : c.callee = .value f) (ha : c.args = args.toArray)
    (hf : ev e f = some (.func (.func g) #[] cap.toArray)) (hargs : evK args e (fun l => some (Value.agg l.toArray)) = some (.agg vs.toArray)) (hS : S = Sl ++ Sin) (hfn : Fn P g (vs ++ cap) Sin M Post)
    (h : ∀ v Sout M', Mle M M' → Post v Sout M' → WL P fn N Rf w0 X M0 k ops rest e (Sl ++ Sout) M') : WL P fn N Rf w0 X M0 k ops (o :: rest) e S M := by
  subst hS
  refine WL.perm List.perm_append_comm ?_
  refine WL.call0 hcall hg hd ho hc ha hf hargs (Sin := Sin) (Sr := Sl) rfl hfn (fun v Sout M' hm hp => ?_)
  exact WL.perm List.perm_append_comm (h v Sout M' hm hp)
/-- What is known of each of some rows. -/
theorem R.rowsFact {α : Type} (ls : List α) (ao : α → Option Nat) (cap el size n : α → Nat) (xs : α → List Value) (hm : ∀ o ∈ ls, Own.row (ao o) (cap o) (el o) (size o) (n o) (xs o) ∈ S) (h : (∀ o ∈ ls, ao o = none → n o = 0) → R P fn N Rf w0 X M0 k e S M) : R P fn N Rf w0 X M0 k e S M :=
  fun a w hf hs => h (fun o ho hn => by
    have h1 : w.ownsRow 0 (el o) (size o) (rowV (ao o) (n o) (cap o)) (n o) (xs o) := hs.rd.own _ (hm o ho)
    rcases h1.2 with ⟨_, h0⟩ | ⟨g', cap', cur, hv, _⟩
    · exact h0
    · rw [hn] at hv; simp [rowV] at hv) a w hf hs
end
theorem Fv.of {P : Program} {f : FuncId} {args : List Value} {M : Mem} {v0 : Value} (h : Fn P f args [] M (fun v S' M' => v = v0 ∧ S' = [] ∧ M' = M)) : Fv P f args M v0 := h
theorem RowM.max {M : Mem} {ao : Option Nat} {cap el size n : Nat} {xs : List Value} (h : RowM M ao cap el size n xs) : n ≤ 9223372036854775807 := by
  cases ao with
  | none => have := (h.2.1 rfl).1; omega
  | some g => obtain ⟨cur, _, h2, h3, _⟩ := h.2.2 g rfl; unfold maxLen at h3; omega
end Go.Proofs.Ytaaiimlaklpjpaa
