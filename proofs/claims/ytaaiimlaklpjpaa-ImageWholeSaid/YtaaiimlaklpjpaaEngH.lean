/- The engine, eighth part: regions that draw their order, in short steps. No condition. -/
import Derived.Test.YtaaiimlaklpjpaaEngG
namespace Go.Proofs.Ytaaiimlaklpjpaa
open Go
set_option linter.unusedVariables false

/-- The operation's guard lets it run. -/
inductive Wt (ops : Array Oper) (e : Env) (o : Oper) : Prop
  | no (h : o.guard = none) : Wt ops e o
  | yes {j dj : Nat} {want : Bool} {oj : Oper} (h : o.guard = some (j, want)) (hj : ops[j]? = some oj) (hdj : oj.dst = some dj) (hv : look e dj = some (.bool want)) : Wt ops e o
theorem Wt.wanted {N : Nat} {ops : Array Oper} {e : Env} {o : Oper} {a : Act} (h : Wt ops e o) (hf : Fits N e a) : Region.wanted o (yielded ops a.tmps) = true := by
  cases h with
  | no h => simp [Region.wanted, h]
  | yes h hj hdj hv => simp [Region.wanted, h, yielded, hj, hdj, hf.get _ _ hv]

section
variable {P : Program} [G : Prg P] {fn : Func} {N : Nat} {Rf : Ending → World → Prop} {w0 : World} {X : List Nat} {M0 : Mem} {k : List It} {e : Env} {S : List Own} {M : Mem} {ops : Array Oper} {o : Oper} {d : Nat} {F : List Own} {Mf : Mem} {fuel : Nat} {listed : Array Bool}

theorem Ev.p {v : Value} (h : pop G.T e o.op = some v) : Ev P o e S M v := pop_run h
theorem Ev.i64 {n : Int} (hv : arP G.T e o.op = some (.i64, n)) (hr : -9223372036854775808 ≤ n ∧ n ≤ 9223372036854775807) : Ev P o e S M (.int .i64 n) := by
  have := pop_run (P := P) (S := S) (M := M) (arP_pop hv)
  rwa [IntWalk.i64_in n hr] at this

omit G in
theorem RD.tk (i : Nat) {v : Value} {oi : Oper} (hi : ops[i]? = some oi) (h1 : Region.noSelect ops = true) (h2 : Region.free .any ops listed i = true) (h3 : (Region.ready .any ops listed).contains i = true) (hw : Wt ops e oi) (hd : oi.dst = some d) (hN : Nat.blt d N = true) (hv : Ev P oi e F Mf v)
    (h : RD P fn N Rf w0 X M0 k ops F Mf fuel (listed.setIfInBounds i true) ((d, v) :: e) S M) : RD P fn N Rf w0 X M0 k ops F Mf (fuel + 1) listed e S M := by
  unfold RD at h ⊢
  intro a w hf hs hr
  refine wpAnyH_take hi h1 h2 h3 (fun c a w hq => panic_put k _ _ c a w hq) (.inl ⟨hw.wanted hf, fun w' hw' => hv N a w' hf hw'⟩) hr ?_
  have := h _ w (hf.put hN v) hs hr
  rw [hd]
  exact this
omit G in
theorem RD.tn (i : Nat) {v : Value} {j dj : Nat} {want : Bool} {oi oj : Oper} (hi : ops[i]? = some oi) (h1 : Region.noSelect ops = true) (h2 : Region.free .any ops listed i = true) (h3 : (Region.ready .any ops listed).contains i = true) (hg : oi.guard = some (j, want)) (hj : ops[j]? = some oj) (hdj : oj.dst = some dj) (hw : look e dj = some v) (hne : (match v with | .bool b => b == want | _ => false) = false) (hd : oi.dst = some d) (hN : Nat.blt d N = true)
    (h : RD P fn N Rf w0 X M0 k ops F Mf fuel (listed.setIfInBounds i true) ((d, undef) :: e) S M) : RD P fn N Rf w0 X M0 k ops F Mf (fuel + 1) listed e S M :=
  RD.takeN i hi h1 h2 h3 hg hj hdj hw hne hd hN h
omit G in
/-- The only one that may come up now; it yields a value as the state stands. -/
theorem RD.o1 (i : Nat) {v : Value} {oi : Oper} (hi : ops[i]? = some oi) (h3 : Region.ready .any ops listed = [i]) (hg : Wt ops e oi) (hd : oi.dst = some d) (hN : Nat.blt d N = true) (hv : Ev P oi e S M v)
    (h : RD P fn N Rf w0 X M0 k ops F Mf fuel (listed.setIfInBounds i true) ((d, v) :: e) S M) : RD P fn N Rf w0 X M0 k ops F Mf (fuel + 1) listed e S M := by
  unfold RD at h ⊢
  intro a w hf hs hr
  refine wpAnyH_all h3 (by simp) fun j hj => ?_
  obtain rfl : j = i := by simpa using hj
  unfold wpOp
  simp only [hi, hg.wanted hf, if_true]
  refine .inl ?_
  unfold Oper.wp
  rw [hv N a w hf hs.rd, Oper.upon_value, hd]
  exact ⟨hr, h _ w (hf.put hN v) hs hr⟩
omit G in
/-- The only one that may come up now; its guard says no. -/
theorem RD.n1 (i : Nat) {v : Value} {j dj : Nat} {want : Bool} {oi oj : Oper} (hi : ops[i]? = some oi) (h3 : Region.ready .any ops listed = [i]) (hg : oi.guard = some (j, want)) (hj : ops[j]? = some oj) (hdj : oj.dst = some dj) (hw : look e dj = some v) (hne : (match v with | .bool b => b == want | _ => false) = false) (hd : oi.dst = some d) (hN : Nat.blt d N = true)
    (h : RD P fn N Rf w0 X M0 k ops F Mf fuel (listed.setIfInBounds i true) ((d, undef) :: e) S M) : RD P fn N Rf w0 X M0 k ops F Mf (fuel + 1) listed e S M := by
  unfold RD at h ⊢
  intro a w hf hs hr
  refine wpAnyH_all h3 (by simp) fun j' hj' => ?_
  obtain rfl : j' = i := by simpa using hj'
  unfold wpOp
  have hwf : Region.wanted oi (yielded ops a.tmps) = false := by
    simp only [Region.wanted, hg, yielded, hj, hdj, Option.bind_some, hf.get dj _ hw]
    split
    · rename_i b hb
      simp only [Option.some.injEq] at hb
      subst hb
      simp only at hne
      simpa using hne
    · rfl
  simp only [hi, hwf, Bool.false_eq_true, if_false, hd]
  exact ⟨hr, h _ w (hf.put hN undef) hs hr⟩
omit G in
/-- The only one that may come up now; it turns the state. -/
theorem RD.o2 (i : Nat) {post : Env → List Own → Mem → Prop} {oi : Oper} (hi : ops[i]? = some oi) (h3 : Region.ready .any ops listed = [i]) (hg : Wt ops e oi) (ho : OpW P N w0 X M0 oi e S M post)
    (h : ∀ e' S' M', post e' S' M' → F.Sublist S' ∧ Mle Mf M' ∧ RD P fn N Rf w0 X M0 k ops F Mf fuel (listed.setIfInBounds i true) e' S' M') : RD P fn N Rf w0 X M0 k ops F Mf (fuel + 1) listed e S M := by
  unfold RD at h ⊢
  intro a w hf hs hr
  refine wpAnyH_all h3 (by simp) fun j hj => ?_
  obtain rfl : j = i := by simpa using hj
  unfold wpOp
  simp only [hi, hg.wanted hf, if_true]
  refine .inl (ho a w _ _ hf hs fun e' S' M' a' w' hp hf' hs' => ?_)
  obtain ⟨hF, hM, hrd⟩ := h e' S' M' hp
  have hr' : Rd F Mf w' := hs'.rd.sub (fun o ho => hF.subset ho) hM
  exact ⟨hr', hrd a' w' hf' hs' hr'⟩
omit G in
/-- A call that only yields a value. -/
theorem RD.cv (i : Nat) {g : FuncId} {c : Call} {f : Operand} {args : List Operand} {vs cap : List Value} {v0 : Value} {oi : Oper} (hcall : ∀ args w, (callFunc g args).run P w = .ok (.enter g args) w)
    (hi : ops[i]? = some oi) (h3 : Region.ready .any ops listed = [i]) (hg : Wt ops e oi) (hd : oi.dst = some d) (hN : Nat.blt d N = true) (ho : oi.op = .call c) (hc : c.callee = .value f) (ha : c.args = args.toArray)
    (hf : ev e f = some (.func (.func g) #[] cap.toArray)) (hargs : evK args e (fun l => some (Value.agg l.toArray)) = some (.agg vs.toArray)) (hfn : Fv P g (vs ++ cap) M v0) (hF : F.Sublist S) (hM : Mle Mf M)
    (h : RD P fn N Rf w0 X M0 k ops F Mf fuel (listed.setIfInBounds i true) ((d, v0) :: e) S M) : RD P fn N Rf w0 X M0 k ops F Mf (fuel + 1) listed e S M :=
  RD.o2 i hi h3 hg (OpW.call ho hc ha hd hN hcall hf hargs (Sin := []) (Sr := S) rfl hfn) (by rintro _ _ _ ⟨v, Sout, rfl, rfl, hm, rfl, rfl, rfl⟩; exact ⟨hF, hM, h⟩)
omit G in
/-- A guard that is not decided yet: both ways. -/
theorem RD.gd {dj : Nat} {b : Bool} (hv : look e dj = some (.bool b)) (ht : b = true → RD P fn N Rf w0 X M0 k ops F Mf fuel listed ((dj, .bool true) :: e) S M) (hf : b = false → RD P fn N Rf w0 X M0 k ops F Mf fuel listed ((dj, .bool false) :: e) S M) :
    RD P fn N Rf w0 X M0 k ops F Mf fuel listed e S M := by
  cases b with
  | true => exact RD.same dj _ hv rfl (ht rfl)
  | false => exact RD.same dj _ hv rfl (hf rfl)
omit G in
theorem RD.gdP {dj : Nat} {p : Prop} {inst : Decidable p} (hv : look e dj = some (.bool (@decide p inst))) (ht : p → RD P fn N Rf w0 X M0 k ops F Mf fuel listed ((dj, .bool true) :: e) S M) (hf : ¬ p → RD P fn N Rf w0 X M0 k ops F Mf fuel listed ((dj, .bool false) :: e) S M) :
    RD P fn N Rf w0 X M0 k ops F Mf fuel listed e S M := RD.gd hv (fun h => ht (of_decide_eq_true h)) (fun h => hf (of_decide_eq_false h))
omit G in
theorem RD.gdN {dj : Nat} {p : Prop} {inst : Decidable p} (hv : look e dj = some (.bool (!(@decide p inst)))) (ht : ¬ p → RD P fn N Rf w0 X M0 k ops F Mf fuel listed ((dj, .bool true) :: e) S M) (hf : p → RD P fn N Rf w0 X M0 k ops F Mf fuel listed ((dj, .bool false) :: e) S M) :
    RD P fn N Rf w0 X M0 k ops F Mf fuel listed e S M := RD.gd hv (fun h => ht (by simpa using h)) (fun h => hf (by simpa using h))
/-- A store into an own box (the entry is found first). -/
theorem RD.sb (i : Nat) {t : Nat} {td : TD} {x y : Operand} {b off tb : Nat} {cs us cs' : List Value} {v : Value} {S' : List Own} {oi : Oper} (hi : ops[i]? = some oi) (h3 : Region.ready .any ops listed = [i]) (hg : Wt ops e oi)
    (hd : oi.dst = none) (ho : oi.op = .store t x y) (ht : tlook G.T t = some td) (hx : ev e x = some (.pointer (some ⟨b, off, none⟩))) (hy : ev e y = some v)
    (hv : v.cells = us.toArray) (hlen : Nat.beq us.length td.size = true) (h1 : allOne us = true) (hu : Upd S (.box b cs tb) (.box b cs' tb) S') (hp : putsK off us cs some = some cs') (hF : F.Sublist S') (hM : Mle Mf M)
    (h : RD P fn N Rf w0 X M0 k ops F Mf fuel (listed.setIfInBounds i true) e S' M) : RD P fn N Rf w0 X M0 k ops F Mf (fuel + 1) listed e S M :=
  RD.o2 i hi h3 hg (OpW.storeB ho hd ht hx hy hv hlen h1 hp hu) (by rintro _ _ _ ⟨rfl, rfl, rfl⟩; exact ⟨hF, hM, h⟩)
/-- A slice that is written out. -/
theorem RD.bs (i : Nat) {t el len : Nat} {td de : TD} {parts : Array (Nat × Operand)} {cs : List Value} {oi : Oper} (hi : ops[i]? = some oi) (h3 : Region.ready .any ops listed = [i]) (hg : Wt ops e oi) (hd : oi.dst = some d) (hN : Nat.blt d N = true) (ho : oi.op = .buildSlice t len parts) (ht : tlook G.T t = some td) (hdd : td.desc = .slice el) (he : tlook G.T el = some de)
    (hb : evParts parts.toList e (fun ps => buildSK G.T el len ps) = some (.agg cs.toArray)) (hF : F.Sublist S) (hM : Mle Mf M) (h : ∀ g, RD P fn N Rf w0 X M0 k ops F Mf fuel (listed.setIfInBounds i true) ((d, rowV (some g) len len) :: e) (.row (some g) len el de.size len cs :: S) M) : RD P fn N Rf w0 X M0 k ops F Mf (fuel + 1) listed e S M :=
  RD.o2 i hi h3 hg (OpW.buildSlice ho hd hN ht hdd he hb) (by rintro _ _ _ ⟨g, rfl, rfl, rfl⟩; exact ⟨hF.cons _, hM, h g⟩)
theorem RD.al (i : Nat) {t : Nat} {td : TD} {cs : List Value} {oi : Oper} (hi : ops[i]? = some oi) (h3 : Region.ready .any ops listed = [i]) (hg : Wt ops e oi) (hd : oi.dst = some d) (hN : Nat.blt d N = true) (ho : oi.op = .alloc t) (ht : tlook G.T t = some td) (hz : td.zero.cells = cs.toArray) (hF : F.Sublist S) (hM : Mle Mf M)
    (h : ∀ b, RD P fn N Rf w0 X M0 k ops F Mf fuel (listed.setIfInBounds i true) ((d, .pointer (some ⟨b, 0, none⟩)) :: e) (.box b cs t :: S) M) : RD P fn N Rf w0 X M0 k ops F Mf (fuel + 1) listed e S M :=
  RD.o2 i hi h3 hg (OpW.alloc ho hd hN ht hz) (by rintro _ _ _ ⟨b, rfl, rfl, rfl⟩; exact ⟨hF.cons _, hM, h b⟩)
end
end Go.Proofs.Ytaaiimlaklpjpaa
