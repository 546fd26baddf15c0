/- The engine, fifth part: short steps; append, make, slicing, literals of slices; regions that draw their order. No condition. -/
import Derived.Test.YtaaiimlaklpjpaaEngD
namespace Go.Proofs.Ytaaiimlaklpjpaa
open Go
set_option linter.unusedVariables false

/-- What an arithmetic operation comes to ahead of its wrap. -/
def arP (T : List (Nat × TD)) (e : Env) : Op → Option (IntKind × Int)
  | .binOp op _ x y _ => match ev e x, ev e y with
    | some (.int k a), some (.int k' b) => if k = k' then match op with
      | .add => some (k, a + b)
      | .sub => some (k, a - b)
      | .mul => some (k, a * b)
      | _ => none
      else none
    | _, _ => none
  | .unOp .neg _ x => match ev e x with
    | some (.int k n) => some (k, 0 - n)
    | _ => none
  | .convert src dst x => match tlook T src, tlook T dst, ev e x with
    | some ⟨.int _, _, _, _⟩, some ⟨.int k, _, _, _⟩, some (.int _ n) => some (k, n)
    | _, _, _ => none
  | _ => none

theorem arP_pop {T : List (Nat × TD)} {e : Env} {op : Op} {k : IntKind} {n : Int} (h : arP T e op = some (k, n)) : pop T e op = some (.int k (k.wrap n)) := by
  unfold arP at h
  split at h
  · split at h
    · rename_i op' _ x y _ _ _ k1 a k2 b hx hy
      split at h
      · rename_i hk
        subst hk
        split at h <;> first | (simp only [Option.some.injEq, Prod.mk.injEq] at h; obtain ⟨rfl, rfl⟩ := h; simp [pop, hx, hy, intPop]) | cases h
      · cases h
    · cases h
  · split at h
    · rename_i hx
      simp only [Option.some.injEq, Prod.mk.injEq] at h
      obtain ⟨rfl, rfl⟩ := h
      simp [pop, hx]
    · cases h
  · split at h
    · rename_i hs hd hx
      simp only [Option.some.injEq, Prod.mk.injEq] at h
      obtain ⟨rfl, rfl⟩ := h
      simp [pop, hs, hd, hx]
    · cases h
  · cases h

section
variable {P : Program} [G : Prg P] {fn : Func} {N : Nat} {Rf : Ending → World → Prop} {w0 : World} {X : List Nat} {M0 : Mem} {k : List It} {e : Env} {S : List Own} {M : Mem} {ops : Array Oper} {rest : List Oper} {o : Oper} {d : Nat}

theorem WL.p {v : Value} (hg : o.guard = none) (hd : o.dst = some d) (hN : Nat.blt d N = true) (hA : (arP G.T e o.op).isNone = true) (hv : pop G.T e o.op = some v) (h : WL P fn N Rf w0 X M0 k ops rest ((d, v) :: e) S M) : WL P fn N Rf w0 X M0 k ops (o :: rest) e S M :=
  WL.step hg hd hN (pop_run hv) h
/-- With the wrap left standing. -/
theorem WL.w {v : Value} (hg : o.guard = none) (hd : o.dst = some d) (hN : Nat.blt d N = true) (hv : pop G.T e o.op = some v) (h : WL P fn N Rf w0 X M0 k ops rest ((d, v) :: e) S M) : WL P fn N Rf w0 X M0 k ops (o :: rest) e S M :=
  WL.step hg hd hN (pop_run hv) h
theorem WL.i64 {n : Int} (hg : o.guard = none) (hd : o.dst = some d) (hN : Nat.blt d N = true) (hv : arP G.T e o.op = some (.i64, n)) (hr : -9223372036854775808 ≤ n ∧ n ≤ 9223372036854775807) (h : WL P fn N Rf w0 X M0 k ops rest ((d, .int .i64 n) :: e) S M) :
    WL P fn N Rf w0 X M0 k ops (o :: rest) e S M :=
  WL.step hg hd hN (by have := pop_run (P := P) (S := S) (M := M) (arP_pop hv); rwa [IntWalk.i64_in n hr] at this) h
theorem WL.u32 {n : Int} (hg : o.guard = none) (hd : o.dst = some d) (hN : Nat.blt d N = true) (hv : arP G.T e o.op = some (.u32, n)) (hr : 0 ≤ n ∧ n ≤ 4294967295) (h : WL P fn N Rf w0 X M0 k ops rest ((d, .int .u32 n) :: e) S M) :
    WL P fn N Rf w0 X M0 k ops (o :: rest) e S M :=
  WL.step hg hd hN (by have := pop_run (P := P) (S := S) (M := M) (arP_pop hv); rwa [IntWalk.u32_in n hr] at this) h
theorem WL.u8 {n : Int} (hg : o.guard = none) (hd : o.dst = some d) (hN : Nat.blt d N = true) (hv : arP G.T e o.op = some (.u8, n)) (hr : 0 ≤ n ∧ n ≤ 255) (h : WL P fn N Rf w0 X M0 k ops rest ((d, .int .u8 n) :: e) S M) :
    WL P fn N Rf w0 X M0 k ops (o :: rest) e S M :=
  WL.step hg hd hN (by have := pop_run (P := P) (S := S) (M := M) (arP_pop hv); rwa [IntWalk.u8_in n hr] at this) h
theorem WL.i32 {n : Int} (hg : o.guard = none) (hd : o.dst = some d) (hN : Nat.blt d N = true) (hv : arP G.T e o.op = some (.i32, n)) (hr : -2147483648 ≤ n ∧ n ≤ 2147483647) (h : WL P fn N Rf w0 X M0 k ops rest ((d, .int .i32 n) :: e) S M) :
    WL P fn N Rf w0 X M0 k ops (o :: rest) e S M :=
  WL.step hg hd hN (by have := pop_run (P := P) (S := S) (M := M) (arP_pop hv); rwa [IntWalk.i32_in n hr] at this) h
theorem WL.u64 {n : Int} (hg : o.guard = none) (hd : o.dst = some d) (hN : Nat.blt d N = true) (hv : arP G.T e o.op = some (.u64, n)) (hr : 0 ≤ n ∧ n ≤ 18446744073709551615) (h : WL P fn N Rf w0 X M0 k ops rest ((d, .int .u64 n) :: e) S M) :
    WL P fn N Rf w0 X M0 k ops (o :: rest) e S M :=
  WL.step hg hd hN (by have := pop_run (P := P) (S := S) (M := M) (arP_pop hv); rwa [IntWalk.u64_in n hr] at this) h
/-- A load out of an own box. -/
theorem WL.lb {t : Nat} {x : Operand} {td : TD} {b off : Nat} {cs : List Value} {tb : TypeId} {v : Value} (hg : o.guard = none) (hd : o.dst = some d) (hN : Nat.blt d N = true) (ho : o.op = .load t x) (ht : tlook G.T t = some td) (hx : ev e x = some (.pointer (some ⟨b, off, none⟩)))
    (hS : Own.box b cs tb ∈ S) (hr : readK td off cs = some v) (h : WL P fn N Rf w0 X M0 k ops rest ((d, v) :: e) S M) : WL P fn N Rf w0 X M0 k ops (o :: rest) e S M :=
  WL.step hg hd hN (Ev.loadB ho ht hx hS hr) h
/-- A load out of memory that does not turn. -/
theorem WL.lm {t : Nat} {x : Operand} {td : TD} {b off : Nat} {ys : List Value} {v : Value} (hg : o.guard = none) (hd : o.dst = some d) (hN : Nat.blt d N = true) (ho : o.op = .load t x) (ht : tlook G.T t = some td) (hx : ev e x = some (.pointer (some ⟨b, off, none⟩)))
    (hM : Cells M b off ys) (hr : readK td 0 ys = some v) (h : WL P fn N Rf w0 X M0 k ops rest ((d, v) :: e) S M) : WL P fn N Rf w0 X M0 k ops (o :: rest) e S M :=
  WL.step hg hd hN (Ev.loadM ho ht hx hM hr) h
/-- The address of an element of a slice. -/
theorem WL.ix {t : Nat} {x ix : Operand} {td de : TD} {el : Nat} {b off n cap : Nat} {kk : IntKind} {i : Int} (j : Nat) (hg : o.guard = none) (hd : o.dst = some d) (hN : Nat.blt d N = true) (ho : o.op = .indexAddr t x ix) (ht : tlook G.T t = some td) (hdd : td.desc = .slice el) (he : tlook G.T el = some de)
    (hx : ev e x = some (.slice (some ⟨b, off, none⟩) n cap)) (hi : ev e ix = some (.int kk i)) (h0 : 0 ≤ i) (h1 : i < n) (hj : off + i.toNat * de.size = j) (h : WL P fn N Rf w0 X M0 k ops rest ((d, .pointer (some ⟨b, j, none⟩)) :: e) S M) : WL P fn N Rf w0 X M0 k ops (o :: rest) e S M :=
  WL.step hg hd hN (Ev.index ho ht hdd he hx hi h0 h1 hj) h
theorem WL.ixA {t : Nat} {x ix : Operand} {td de : TD} {el : Nat} {b off n : Nat} {kk : IntKind} {i : Int} (j : Nat) (hg : o.guard = none) (hd : o.dst = some d) (hN : Nat.blt d N = true) (ho : o.op = .indexAddr t x ix) (ht : tlook G.T t = some td) (hdd : td.desc = .array n el) (he : tlook G.T el = some de)
    (hx : ev e x = some (.pointer (some ⟨b, off, none⟩))) (hi : ev e ix = some (.int kk i)) (h0 : 0 ≤ i) (h1 : i < n) (hj : off + i.toNat * de.size = j) (h : WL P fn N Rf w0 X M0 k ops rest ((d, .pointer (some ⟨b, j, none⟩)) :: e) S M) : WL P fn N Rf w0 X M0 k ops (o :: rest) e S M :=
  WL.step hg hd hN (Ev.indexA ho ht hdd he hx hi h0 h1 hj) h
/-- A new variable: zero, or a given value. -/
theorem WL.al {t : Nat} {td : TD} {cs : List Value} (hg : o.guard = none) (hd : o.dst = some d) (hN : Nat.blt d N = true) (ho : o.op = .alloc t) (ht : tlook G.T t = some td) (hz : td.zero.cells = cs.toArray)
    (h : ∀ b, WL P fn N Rf w0 X M0 k ops rest ((d, .pointer (some ⟨b, 0, none⟩)) :: e) (.box b cs t :: S) M) : WL P fn N Rf w0 X M0 k ops (o :: rest) e S M :=
  WL.op hg (OpW.alloc ho hd hN ht hz) (by rintro _ _ _ ⟨b, rfl, rfl, rfl⟩; exact h b)
omit G in
theorem WL.bx {t : Nat} {x : Operand} {v : Value} {cs : List Value} (hg : o.guard = none) (hd : o.dst = some d) (hN : Nat.blt d N = true) (ho : o.op = .box t x) (hx : ev e x = some v) (hz : v.cells = cs.toArray)
    (h : ∀ b, WL P fn N Rf w0 X M0 k ops rest ((d, .pointer (some ⟨b, 0, none⟩)) :: e) (.box b cs t :: S) M) : WL P fn N Rf w0 X M0 k ops (o :: rest) e S M :=
  WL.op hg (OpW.box ho hd hN hx hz) (by rintro _ _ _ ⟨b, rfl, rfl, rfl⟩; exact h b)
/-- A store into an own box. -/
theorem WL.sb {t : Nat} {td : TD} {x y : Operand} {b off tb : Nat} {cs us cs' : List Value} {v : Value} {S' : List Own} (hg : o.guard = none) (hd : o.dst = none) (ho : o.op = .store t x y) (ht : tlook G.T t = some td) (hx : ev e x = some (.pointer (some ⟨b, off, none⟩))) (hy : ev e y = some v)
    (hv : v.cells = us.toArray) (hlen : Nat.beq us.length td.size = true) (h1 : allOne us = true) (hu : Upd S (.box b cs tb) (.box b cs' tb) S') (hp : putsK off us cs some = some cs')
    (h : WL P fn N Rf w0 X M0 k ops rest e S' M) : WL P fn N Rf w0 X M0 k ops (o :: rest) e S M :=
  WL.op hg (OpW.storeB ho hd ht hx hy hv hlen h1 hp hu) (by rintro _ _ _ ⟨rfl, rfl, rfl⟩; exact h)
omit G in
/-- A call. -/
theorem WL.call {g : FuncId} {c : Call} {f : Operand} {args : List Operand} {vs cap : List Value} {Sin Sr : List Own} {Post : Value → List Own → Mem → Prop} (hcall : ∀ args w, (callFunc g args).run P w = .ok (.enter g args) w)
    (hg : o.guard = none) (hd : o.dst = some d) (hN : Nat.blt d N = true) (ho : o.op = .call c) (hc : c.callee = .value f) (ha : c.args = args.toArray)
    (hf : ev e f = some (.func (.func g) #[] cap.toArray)) (hargs : evK args e (fun l => some (Value.agg l.toArray)) = some (.agg vs.toArray)) (hS : S = Sin ++ Sr) (hfn : Fn P g (vs ++ cap) Sin M Post)
    (h : ∀ v Sout M', Mle M M' → Post v Sout M' → WL P fn N Rf w0 X M0 k ops rest ((d, v) :: e) (Sout ++ Sr) M') : WL P fn N Rf w0 X M0 k ops (o :: rest) e S M :=
  WL.op hg (OpW.call ho hc ha hd hN hcall hf hargs hS hfn) (by rintro _ _ M' ⟨v, Sout, rfl, rfl, hm, hp⟩; exact h v Sout M' hm hp)
omit G in
/-- A call whose value is thrown away (no slot). -/
theorem WL.call0 {g : FuncId} {c : Call} {f : Operand} {args : List Operand} {vs cap : List Value} {Sin Sr : List Own} {Post : Value → List Own → Mem → Prop} (hcall : ∀ args w, (callFunc g args).run P w = .ok (.enter g args) w)
    (hg : o.guard = none) (hd : o.dst = none) (ho : o.op = .call c) (hc : c.callee = .value f) (ha : c.args = args.toArray)
    (hf : ev e f = some (.func (.func g) #[] cap.toArray)) (hargs : evK args e (fun l => some (Value.agg l.toArray)) = some (.agg vs.toArray)) (hS : S = Sin ++ Sr) (hfn : Fn P g (vs ++ cap) Sin M Post)
    (h : ∀ v Sout M', Mle M M' → Post v Sout M' → WL P fn N Rf w0 X M0 k ops rest e (Sout ++ Sr) M') : WL P fn N Rf w0 X M0 k ops (o :: rest) e S M := by
  refine WL.op hg (post := fun e' S' M' => ∃ v Sout, e' = e ∧ S' = Sout ++ Sr ∧ Mle M M' ∧ Post v Sout M') ?_ (by rintro _ _ M' ⟨v, Sout, rfl, rfl, hm, hp⟩; exact h v Sout M' hm hp)
  intro a w K Q hfit hs hK
  subst hS
  have hmap : args.map a.eval = vs := by
    have := evK_some hfit args _ hargs
    simpa using this
  have hcl := hfn w hs.sub_call
  unfold Oper.wp
  simp only [execOp, ho, resolve, hc, ha, hfit.eval hf, Deferred.ofValue, invoke, Sem.run_bind, Sem.run_pure, Result.andThen_ok, List.map_toArray, hmap, List.append_toArray, hcall, Oper.upon]
  refine hcl.mono fun en w' ⟨v, Sout, M', hen, hst, hp⟩ => ?_
  subst hen
  refine hK _ _ _ _ _ ⟨v, Sout, rfl, rfl, hst.mle, hp⟩ ?_ (hs.after_call hst)
  rw [hd]
  exact hfit

omit G in
/-- A guard that is not decided yet: both ways. -/
theorem WL.gd {j dj : Nat} {want b : Bool} {oj : Oper} (hg : o.guard = some (j, want)) (hj : ops[j]? = some oj) (hdj : oj.dst = some dj) (hv : look e dj = some (.bool b)) (ht : b = true → WL P fn N Rf w0 X M0 k ops (o :: rest) ((dj, .bool true) :: e) S M) (hf : b = false → WL P fn N Rf w0 X M0 k ops (o :: rest) ((dj, .bool false) :: e) S M) :
    WL P fn N Rf w0 X M0 k ops (o :: rest) e S M := WL.cases dj hv ht hf
omit G in
theorem WL.gdP {j dj : Nat} {want : Bool} {p : Prop} {inst : Decidable p} {oj : Oper} (hg : o.guard = some (j, want)) (hj : ops[j]? = some oj) (hdj : oj.dst = some dj) (hv : look e dj = some (.bool (@decide p inst))) (ht : p → WL P fn N Rf w0 X M0 k ops (o :: rest) ((dj, .bool true) :: e) S M) (hf : ¬ p → WL P fn N Rf w0 X M0 k ops (o :: rest) ((dj, .bool false) :: e) S M) :
    WL P fn N Rf w0 X M0 k ops (o :: rest) e S M := WL.casesP dj hv ht hf
omit G in
theorem WL.gdN {j dj : Nat} {want : Bool} {p : Prop} {inst : Decidable p} {oj : Oper} (hg : o.guard = some (j, want)) (hj : ops[j]? = some oj) (hdj : oj.dst = some dj) (hv : look e dj = some (.bool (!(@decide p inst)))) (ht : ¬ p → WL P fn N Rf w0 X M0 k ops (o :: rest) ((dj, .bool true) :: e) S M) (hf : p → WL P fn N Rf w0 X M0 k ops (o :: rest) ((dj, .bool false) :: e) S M) :
    WL P fn N Rf w0 X M0 k ops (o :: rest) e S M := WL.casesN dj hv ht hf

/-! ### Slices -/
theorem Ev.slice {v : Value} {t el : Nat} {td de : TD} {x : Operand} {lo hi mx : Option Operand} {b : Option Addr} {len cap l h m : Nat} (ho : o.op = .slice t x lo hi mx) (ht : tlook G.T t = some td) (hd : td.desc = .slice el) (he : tlook G.T el = some de) (hx : ev e x = some (.slice b len cap))
    (hm : match mx with | none => m = cap | some z => ∃ kk, ev e z = some (.int kk (m : Int)) ∧ m ≤ cap) (hh : match hi with | none => h = len ∧ mx = none | some z => ∃ kk, ev e z = some (.int kk (h : Int)) ∧ h ≤ m) (hl : match lo with | none => l = 0 | some z => ∃ kk, ev e z = some (.int kk (l : Int)) ∧ l ≤ h)
    (hv : v = .slice (if m = l then b else b.map (·.add (l * de.size))) (h - l) (m - l)) : Ev P o e S M v := by
  intro N' a w hf hrd
  have hu : P.underlying t = some (.slice el) := by rw [Prg.under ht, hd]
  subst hv
  have hbm : ∀ (z : Operand) kk (n y : Nat) (code : BoundsCode), ev e z = some (.int kk (n : Int)) → n ≤ y → (Instr.sliceBound (a.eval z) y code).run P w = .ok n w := by
    intro z kk n y code hz hny
    have h1 : (0 : Int) ≤ (n : Int) ∧ (n : Int) ≤ (y : Int) := ⟨by omega, by omega⟩
    simp only [Instr.sliceBound, hf.eval hz, asIntOf, Sem.run_bind, Sem.run_pure, Result.andThen_ok, if_pos h1, Int.toNat_natCast]
  cases mx with
  | none =>
    simp only at hm
    subst hm
    cases hi with
    | none =>
      obtain ⟨rfl, _⟩ := hh
      cases lo with
      | none =>
        simp only at hl
        subst hl
        simp [execOp, ho, hf.eval hx, Instr.sliceAt, Instr.slice, Instr.sliceBounds, run_underlying hu, run_sizeOfT he]
      | some z =>
        obtain ⟨kk, hz, hle⟩ := hl
        simp [execOp, ho, hf.eval hx, Instr.sliceAt, Instr.slice, Instr.sliceBounds, run_underlying hu, run_sizeOfT he, hbm z kk l h _ hz hle]
    | some y =>
      obtain ⟨ky, hy, hyle⟩ := hh
      cases lo with
      | none =>
        simp only at hl
        subst hl
        simp [execOp, ho, hf.eval hx, Instr.sliceAt, Instr.slice, Instr.sliceBounds, run_underlying hu, run_sizeOfT he, hbm y ky h m _ hy hyle]
      | some z =>
        obtain ⟨kk, hz, hle⟩ := hl
        simp [execOp, ho, hf.eval hx, Instr.sliceAt, Instr.slice, Instr.sliceBounds, run_underlying hu, run_sizeOfT he, hbm z kk l h _ hz hle, hbm y ky h m _ hy hyle]
  | some q =>
    obtain ⟨kq, hq, hqle⟩ := hm
    cases hi with
    | none => obtain ⟨_, h2⟩ := hh; cases h2
    | some y =>
      obtain ⟨ky, hy, hyle⟩ := hh
      cases lo with
      | none =>
        simp only at hl
        subst hl
        simp [execOp, ho, hf.eval hx, Instr.sliceAt, Instr.slice, Instr.sliceBounds, run_underlying hu, run_sizeOfT he, hbm y ky h m _ hy hyle, hbm q kq m cap _ hq hqle]
      | some z =>
        obtain ⟨kk, hz, hle⟩ := hl
        simp [execOp, ho, hf.eval hx, Instr.sliceAt, Instr.slice, Instr.sliceBounds, run_underlying hu, run_sizeOfT he, hbm z kk l h _ hz hle, hbm y ky h m _ hy hyle, hbm q kq m cap _ hq hqle]

/-- Where the values of a slice are read: under whatever environment of own blocks and memory. -/
def Src (S : List Own) (M : Mem) (ao : Option Addr) (xs : List Value) : Prop := ∀ w, Rd S M w → ∀ a, ao = some a → ∀ j u, xs[j]? = some u → w.cell? (a.add j) = some u

omit G in
theorem Src.ofM {b off : Nat} {xs : List Value} (h : Cells M b off xs) : Src S M (some ⟨b, off, none⟩) xs := by
  intro w hr a ha j u hj
  cases ha
  rw [Addr.add_lit]
  exact hr.cell (h j u hj)
omit G in
theorem Src.nil {xs : List Value} : Src S M none xs := fun w hr a ha => by cases ha
omit G in
theorem Src.ofRow {g cap el size n : Nat} {xs : List Value} (h : Own.row (some g) cap el size n xs ∈ S) : Src S M (some ⟨g, 0, none⟩) xs := by
  intro w hr a ha j u hj
  cases ha
  rw [Addr.add_lit, Nat.zero_add]
  exact Own.row_cell (hr.own _ h) j u hj
omit G in
theorem Src.ofBox {b tb off : Nat} {cs xs : List Value} (h : Own.box b cs tb ∈ S) (hx : ∀ j u, xs[j]? = some u → cs[off + j]? = some u) : Src S M (some ⟨b, off, none⟩) xs := by
  intro w hr a ha j u hj
  cases ha
  rw [Addr.add_lit]
  exact Own.box_cell (hr.own _ h) _ _ (hx j u hj)

/-- S' is S without the entry x. -/
inductive Pull : List Own → Own → List Own → Prop
  | here {x : Own} {S : List Own} : Pull (x :: S) x S
  | there {x z : Own} {S S' : List Own} : Pull S x S' → Pull (z :: S) x (z :: S')
omit G in
theorem Pull.perm {S S' : List Own} {x : Own} (h : Pull S x S') : (x :: S').Perm S := by
  induction h with
  | here => exact List.Perm.refl _
  | there _ ih => exact (List.Perm.swap _ _ _).trans (ih.cons _)

omit G in
theorem run_append_empty {t el : TypeId} {i : TypeInfo} (ty : TypeId) (ht : P.underlying t = some (.slice el)) (hi : P.info? el = some i) (base : Option Addr) (n cap : Nat) (hn : n ≤ cap) (ax : Option Addr) (cx : Nat) (w : World) :
    (Builtin.append_ #[t, t] ty #[.slice base n cap, .slice ax 0 cx]).run P w = .ok (.slice base n cap) w := by
  cases ax <;> cases base <;> simp [Builtin.append_, run_underlying ht, sizeOf, typeInfo, hi, Builtin.lenOf, hn, Builtin.firstCells, loadCells, loadCellsFrom, storeCells]

/-- append to a row of one's own: it stays, or moves. -/
theorem OpW.append {s x : Operand} {t el : Nat} {td de : TD} {ao : Option Nat} {cap n m cx : Nat} {xs news : List Value} {ax : Option Addr} {S' : List Own} (ho : o.op = .call { callee := .builtin .append, args := #[s, x], argTypes := #[t, t] }) (hd : o.dst = some d) (hN : Nat.blt d N = true)
    (ht : tlook G.T t = some td) (hdd : td.desc = .slice el) (he : tlook G.T el = some de) (hs : ev e s = some (rowV ao n cap)) (hx : ev e x = some (.slice ax m cx)) (hz : de.zero.cells.size = de.size)
    (hu : Pull S (.row ao cap el de.size n xs) S') (hax : ax = none → m = 0) (hsrc : Src S M ax news) (hl : news.length = m * de.size) (h1 : ∀ u ∈ news, u.oneCell' = true) (h63 : n + m ≤ 9223372036854775807) (hbytes : (n + m) * de.bytes ≤ 140737488355328) :
    OpW P N w0 X M0 o e S M (fun e' S'' M' => ∃ ao' cap', e' = (d, rowV ao' (n + m) cap') :: e ∧ S'' = .row ao' cap' el de.size (n + m) (xs ++ news) :: S' ∧ M' = M ∧ (ao' = none ↔ ao = none ∧ m = 0)) := by
  intro a w K Q hf hst hK
  obtain ⟨i, hi, his, hib, hiz⟩ := Prg.info he
  have hut : P.underlying t = some (.slice el) := by rw [Prg.under ht, hdd]
  have hst' := hst.perm hu.perm
  have hrow : w.ownsRow 0 el de.size (rowV ao n cap) n xs := hst'.rd.own _ List.mem_cons_self
  have hrow' : w.ownsRow 0 el i.size (rowV ao n cap) n xs := by rw [his]; exact hrow
  have hnews : ∀ ad, ax = some ad → ∀ j u, news[j]? = some u → w.cell? (ad.add j) = some u := hsrc w hst.rd
  have hl' : news.length = m * i.size := by rw [his]; exact hl
  have hb' : (n + m) * i.bytes ≤ 140737488355328 := by rw [hib]; exact hbytes
  have hlen : (xs ++ news).length = (n + m) * de.size := by rw [List.length_append, hrow.1, hl, Nat.add_mul]
  have run : ∀ v w', (Builtin.append_ #[t, t] o.type #[rowV ao n cap, .slice ax m cx]).run P w = .ok v w' → K (a.put o.dst v) w' → o.wp P a w K Q := by
    intro v w' hr hk
    unfold Oper.wp
    simp only [execOp, ho, resolve, invoke, builtin, Sem.run_bind, Sem.run_pure, Result.andThen_ok, List.map_toArray, List.map_cons, List.map_nil, hf.eval hs, hf.eval hx, hr]
    exact hk
  by_cases hm0 : m = 0
  · subst hm0
    have hnil : news = [] := List.eq_nil_of_length_eq_zero (by simpa using hl)
    subst hnil
    have hnc : n ≤ cap := by
      rcases hrow.2 with ⟨h0, rfl⟩ | ⟨g, cap', cur, hv, _, _, hnc, _⟩
      · exact Nat.zero_le _
      · have : cap = cap' := by
          cases ao with
          | none => simp [rowV] at hv
          | some g' => simp [rowV] at hv; exact hv.2
        omega
    refine run _ _ (run_append_empty (P := P) o.type hut hi (ao.map fun g => ⟨g, 0, none⟩) n cap hnc ax cx w) ?_
    refine hK _ _ _ _ _ ⟨ao, cap, rfl, rfl, rfl, by simp⟩ (by rw [hd]; exact hf.put hN _) ?_
    simpa using hst'
  · have hsome : ∃ ad, ax = some ad := by
      cases ax with
      | none => exact absurd (hax rfl) hm0
      | some ad => exact ⟨ad, rfl⟩
    obtain ⟨ad, rfl⟩ := hsome
    have hnews' := hnews ad rfl
    have grow : ∀ (cap' : Nat) (rest : Array Value), n + m ≤ cap' → cap' ≤ maxLen → rest.size = (cap' - (n + m)) * de.size → ∀ v w', v = rowV (some w.heap.size) (n + m) cap' → w' = w.drew.alloc (.cells (xs.toArray ++ news.toArray ++ rest) el) →
        (Builtin.append_ #[t, t] o.type #[rowV ao n cap, .slice (some ad) m cx]).run P w = .ok v w' → o.wp P a w K Q := by
      intro cap' rest hc1 hc2 hrs v w' hv hw' hr
      subst hv hw'
      refine run _ _ hr ?_
      have hnew : (w.drew.alloc (.cells (xs.toArray ++ news.toArray ++ rest) el)).heap[w.heap.size]? = some (.cells (xs.toArray ++ news.toArray ++ rest) el (0, 0)) := heap_alloc_new w.drew _
      have hy : (Own.row (some w.heap.size) cap' el de.size (n + m) (xs ++ news)).holds (w.drew.alloc (.cells (xs.toArray ++ news.toArray ++ rest) el)) := by
        refine ⟨hlen, .inr ⟨w.heap.size, cap', _, rfl, Nat.zero_le _, hnew, hc1, hc2, ?_, ?_⟩⟩
        · simp only [Array.size_append, List.size_toArray, hrow.1, hl, hrs, ← Nat.add_mul]
          congr 1
          omega
        · simp only [Array.toList_append, List.append_assoc]
          rw [← List.append_assoc, ← hlen]
          exact List.take_left
      refine hK _ _ _ _ _ ⟨some w.heap.size, cap', rfl, rfl, rfl, by simp [hm0]⟩ (by rw [hd]; exact hf.put hN _) ?_
      exact hst'.move (g := w.heap.size) rfl (Nat.le_refl _) hy rfl rfl rfl (by simp) (fun b hb _ => heap_alloc_old w.drew _ hb)
    have hcm : ∀ old, grownCap w (n + m) old el ≤ maxLen := fun old => grownCap_le_maxLen w (n + m) old el (by simp only [maxLen]; omega)
    cases ao with
    | none =>
      rcases hrow.2 with ⟨h0, hn0⟩ | ⟨g, cap', cur, hv, _⟩
      · subst hn0
        have hc0 : cap = 0 := by simp [rowV] at h0; exact h0
        subst hc0
        have hx0 : xs = [] := List.eq_nil_of_length_eq_zero (by simpa using hrow.1)
        subst hx0
        have hr := run_append_nil (P := P) w t o.type el i de.zero hut hi hiz ad m cx news hl' hnews' (by omega) (by omega) (by have := hb'; simp only [Nat.zero_add] at this; omega)
        simp only [Nat.zero_add] at grow hcm
        exact grow (grownCap w m 0 el) _ (grownCap_ge w m 0 el) (hcm 0) (by rw [size_zeroCells, hz]) _ _ rfl (by simp) hr
      · simp [rowV] at hv
    | some g =>
      rcases hrow.2 with ⟨h0, _⟩ | ⟨g', cap', cur, hv, _, hh, hnc, hcmx, hcs, htake⟩
      · simp [rowV] at h0
      · simp [rowV] at hv
        obtain ⟨rfl, rfl⟩ := hv
        by_cases hroom : n + m ≤ cap
        · have hfit : n * i.size + news.length ≤ cur.size := by rw [hl', hcs, his, ← Nat.add_mul]; exact Nat.mul_le_mul_right _ hroom
          have hr := run_append_room (P := P) w t o.type el i hut hi g n cap cur hh ad m cx news hl' hnews' h1 hroom hfit
          refine run _ _ hr ?_
          have hnew := setRow_heap w g cur ((cur.toList.take (n * i.size) ++ news ++ cur.toList.drop (n * i.size + news.length)).toArray) el (0, 0) hh
          have hy : (Own.row (some g) cap el de.size (n + m) (xs ++ news)).holds (w.setRow g ((cur.toList.take (n * i.size) ++ news ++ cur.toList.drop (n * i.size + news.length)).toArray)) := by
            refine ⟨hlen, .inr ⟨g, cap, _, rfl, Nat.zero_le _, hnew, hroom, hcmx, ?_, ?_⟩⟩
            · simp only [List.size_toArray, List.length_append, List.length_take, List.length_drop, Array.length_toList]
              omega
            · rw [his, htake, ← hlen]
              exact List.take_left
          refine hK _ _ _ _ _ ⟨some g, cap, rfl, rfl, rfl, by simp⟩ (by rw [hd]; exact hf.put hN _) ?_
          exact hst'.turn (g := g) rfl rfl hy rfl rfl rfl (by simp) (fun b _ hb => setRow_other w g b _ hb)
        · have holds : ∀ j u, xs[j]? = some u → w.cell? ((⟨g, 0, none⟩ : Addr).add j) = some u := hrow.cells (g := g) rfl
          have hr := run_append_grow (P := P) w t o.type el i de.zero hut hi hiz ⟨g, 0, none⟩ n cap xs hrow'.1 holds ad m cx news hl' hnews' (by omega) (by omega) (growslice_fits (by omega) hb')
          exact grow (grownCap w (n + m) cap el) _ (grownCap_ge w (n + m) cap el) (hcm cap) (by rw [size_zeroCells, hz]) _ _ rfl rfl hr
end

end Go.Proofs.Ytaaiimlaklpjpaa
