/- The engine, third part: loads; operations that turn the state; the stack of code; contracts. No condition. -/
import Derived.Test.YtaaiimlaklpjpaaEngB
import Derived.Deep.LoopGhost
namespace Go.Proofs.Ytaaiimlaklpjpaa
open Go
set_option linter.unusedVariables false

/-! ## Reading -/
def cellM (M : Mem) (b o : Nat) : Option Value := match M b with | some (.cells c _ _) => c[o]? | _ => none
def Cells (M : Mem) (b off : Nat) (xs : List Value) : Prop := ∀ i v, xs[i]? = some v → cellM M b (off + i) = some v

theorem Rd.cell {S : List Own} {M : Mem} {w : World} (h : Rd S M w) {b o : Nat} {v : Value} (hc : cellM M b o = some v) : w.cell? ⟨b, o, none⟩ = some v := by
  unfold cellM at hc
  split at hc
  · rename_i c t fr hM
    simp [World.cell?, h.mem b _ hM, hc]
  · cases hc
theorem cellM_mle {M M' : Mem} (h : Mle M M') {b o : Nat} {v : Value} (hc : cellM M b o = some v) : cellM M' b o = some v := by
  unfold cellM at hc ⊢
  split at hc
  · rename_i c t fr hM
    rw [h b _ hM]
    exact hc
  · cases hc
theorem Cells.mle {M M' : Mem} (h : Mle M M') {b off : Nat} {xs : List Value} (hc : Cells M b off xs) : Cells M' b off xs := fun i v hi => cellM_mle h (hc i v hi)

def readK (d : TD) (off : Nat) (cs : List Value) : Option Value :=
  match d.agg with
  | true => dropK off cs (fun r => takeK d.size r (fun l => some (.agg l.toArray)))
  | false => getK off cs some

theorem run_loadVarT {P : Program} [G : Prg P] {t : Nat} {d : TD} (ht : tlook G.T t = some d) {w : World} {b off : Nat} {cs : List Value} {v : Value}
    (hc : ∀ i u, cs[i]? = some u → w.cell? ⟨b, i, none⟩ = some u) (h : readK d off cs = some v) : (loadVar t ⟨b, off, none⟩).run P w = .ok v w := by
  simp only [loadVar, Sem.run_bind, run_isAggT ht, Result.andThen_ok]
  unfold readK at h
  cases ha : d.agg with
  | true =>
    simp only [ha] at h
    obtain ⟨h1, h2⟩ := dropK_some off cs _ h
    obtain ⟨h3, h4⟩ := takeK_some d.size _ _ h2
    simp only [Option.some.injEq] at h4
    subst h4
    have hl : ((cs.drop off).take d.size).length = d.size := by rw [List.length_take]; omega
    have := run_loadCells_list (P := P) w ⟨b, off, none⟩ ((cs.drop off).take d.size) (fun j u hj => by
      rw [Addr.add_lit]
      rw [List.getElem?_take] at hj
      split at hj
      · rw [List.getElem?_drop] at hj; exact hc _ _ hj
      · cases hj)
    rw [hl] at this
    simp [run_sizeOfT ht, this]
  | false =>
    simp only [ha] at h
    obtain ⟨u, hu, hk⟩ := getK_some off cs h
    simp only [Option.some.injEq] at hk
    subst hk
    simp [hc _ _ hu]

theorem Own.box_cell {w : World} {b : Nat} {cs : List Value} {t : TypeId} (h : (Own.box b cs t).holds w) : ∀ i u, cs[i]? = some u → w.cell? ⟨b, i, none⟩ = some u := by
  intro i u hu
  have h' : w.heap[b]? = some (.cells cs.toArray t (0, 0)) := h
  simp [World.cell?, h', hu]

theorem Own.row_cell {w : World} {g cap n size : Nat} {e : TypeId} {xs : List Value} (h : (Own.row (some g) cap e size n xs).holds w) : ∀ i u, xs[i]? = some u → w.cell? ⟨g, i, none⟩ = some u := by
  intro i u hu
  have h' : w.ownsRow 0 e size (.slice (some ⟨g, 0, none⟩) n cap) n xs := h
  have := h'.cells (g := g) rfl i u hu
  rwa [Addr.add_lit, Nat.zero_add] at this

section
variable {P : Program} [G : Prg P] {e : Env} {S : List Own} {M : Mem} {v : Value}
/-- A load out of an own box. -/
theorem Ev.loadB {o : Oper} {t : Nat} {x : Operand} {d : TD} {b off : Nat} {cs : List Value} {tb : TypeId} (ho : o.op = .load t x) (ht : tlook G.T t = some d) (hx : ev e x = some (.pointer (some ⟨b, off, none⟩)))
    (hS : Own.box b cs tb ∈ S) (h : readK d off cs = some v) : Ev P o e S M v := by
  intro N a w hf hrd
  have := run_loadVarT (P := P) ht (Own.box_cell (hrd.own _ hS)) h
  simp [execOp, ho, hf.eval hx, Instr.loadAt, Instr.sureAddr, this]
/-- A load out of an own row: the cell or cells at a number. -/
theorem Ev.loadR {o : Oper} {t : Nat} {x : Operand} {d : TD} {b off cap n size : Nat} {et : TypeId} {xs ys : List Value} (ho : o.op = .load t x) (ht : tlook G.T t = some d) (hx : ev e x = some (.pointer (some ⟨b, off, none⟩)))
    (hS : Own.row (some b) cap et size n xs ∈ S) (hys : ∀ i u, ys[i]? = some u → xs[off + i]? = some u) (h : readK d 0 ys = some v) : Ev P o e S M v := by
  intro N a w hf hrd
  have hc := Own.row_cell (hrd.own _ hS)
  have key : (loadVar t ⟨b, off, none⟩).run P w = .ok v w := by
    simp only [loadVar, Sem.run_bind, run_isAggT ht, Result.andThen_ok]
    unfold readK at h
    cases ha : d.agg with
    | true =>
      simp only [ha] at h
      obtain ⟨h3, h4⟩ := takeK_some d.size _ _ h
      simp only [Option.some.injEq] at h4
      subst h4
      have hl : (ys.take d.size).length = d.size := by rw [List.length_take]; omega
      have := run_loadCells_list (P := P) w ⟨b, off, none⟩ (ys.take d.size) (fun j u hj => by
        rw [Addr.add_lit]
        rw [List.getElem?_take] at hj
        split at hj
        · exact hc _ _ (hys _ _ hj)
        · cases hj)
      rw [hl] at this
      simp [run_sizeOfT ht, this]
    | false =>
      simp only [ha] at h
      obtain ⟨u, hu, hk⟩ := getK_some 0 ys h
      simp only [Option.some.injEq] at hk
      subst hk
      have := hc _ _ (hys _ _ hu)
      simp at this
      simp [this]
  simp [execOp, ho, hf.eval hx, Instr.loadAt, Instr.sureAddr, key]
/-- A load out of memory that does not turn. -/
theorem Ev.loadM {o : Oper} {t : Nat} {x : Operand} {d : TD} {b off : Nat} {ys : List Value} (ho : o.op = .load t x) (ht : tlook G.T t = some d) (hx : ev e x = some (.pointer (some ⟨b, off, none⟩)))
    (hM : Cells M b off ys) (h : readK d 0 ys = some v) : Ev P o e S M v := by
  intro N a w hf hrd
  have hc : ∀ i u, ys[i]? = some u → w.cell? ⟨b, off + i, none⟩ = some u := fun i u hi => hrd.cell (hM i u hi)
  have key : (loadVar t ⟨b, off, none⟩).run P w = .ok v w := by
    simp only [loadVar, Sem.run_bind, run_isAggT ht, Result.andThen_ok]
    unfold readK at h
    cases ha : d.agg with
    | true =>
      simp only [ha] at h
      obtain ⟨h3, h4⟩ := takeK_some d.size _ _ h
      simp only [Option.some.injEq] at h4
      subst h4
      have hl : (ys.take d.size).length = d.size := by rw [List.length_take]; omega
      have := run_loadCells_list (P := P) w ⟨b, off, none⟩ (ys.take d.size) (fun j u hj => by
        rw [Addr.add_lit]
        rw [List.getElem?_take] at hj
        split at hj
        · exact hc _ _ hj
        · cases hj)
      rw [hl] at this
      simp [run_sizeOfT ht, this]
    | false =>
      simp only [ha] at h
      obtain ⟨u, hu, hk⟩ := getK_some 0 ys h
      simp only [Option.some.injEq] at hk
      subst hk
      have := hc _ _ hu
      simp at this
      simp [this]
  simp [execOp, ho, hf.eval hx, Instr.loadAt, Instr.sureAddr, key]

/-- The address of an element of a slice. -/
theorem Ev.index {o : Oper} {t : Nat} {x ix : Operand} {d de : TD} {el : Nat} {b off n cap : Nat} {k : IntKind} {i : Int} {j : Nat} (ho : o.op = .indexAddr t x ix) (ht : tlook G.T t = some d) (hd : d.desc = .slice el) (he : tlook G.T el = some de)
    (hx : ev e x = some (.slice (some ⟨b, off, none⟩) n cap)) (hi : ev e ix = some (.int k i)) (h0 : 0 ≤ i) (h1 : i < n) (hj : off + i.toNat * de.size = j) : Ev P o e S M (.pointer (some ⟨b, j, none⟩)) := by
  intro N a w hf hrd
  have hu : P.underlying t = some (.slice el) := by rw [Prg.under ht, hd]
  subst hj
  simp [execOp, ho, hf.eval hx, hf.eval hi, Instr.indexAt, asIntOf, run_underlying hu, h0, h1, run_sizeOfT he, Addr.add_lit]

/-- The address of an element of an array. -/
theorem Ev.indexA {o : Oper} {t : Nat} {x ix : Operand} {d de : TD} {el : Nat} {b off n : Nat} {k : IntKind} {i : Int} {j : Nat} (ho : o.op = .indexAddr t x ix) (ht : tlook G.T t = some d) (hd : d.desc = .array n el) (he : tlook G.T el = some de)
    (hx : ev e x = some (.pointer (some ⟨b, off, none⟩))) (hi : ev e ix = some (.int k i)) (h0 : 0 ≤ i) (h1 : i < n) (hj : off + i.toNat * de.size = j) : Ev P o e S M (.pointer (some ⟨b, j, none⟩)) := by
  intro N a w hf hrd
  have hu : P.underlying t = some (.array n el) := by rw [Prg.under ht, hd]
  subst hj
  simp [execOp, ho, hf.eval hx, hf.eval hi, Instr.indexAt, Instr.sureAddr, asIntOf, run_underlying hu, h0, h1, run_sizeOfT he, Addr.add_lit]

omit G in
theorem Ev.quo {o : Oper} {t yt : Nat} {x y : Operand} {k : IntKind} {a b : Int} (ho : o.op = .binOp .quo t x y yt) (hx : ev e x = some (.int k a)) (hy : ev e y = some (.int k b)) (hb : b ≠ 0) : Ev P o e S M (.int k (k.wrap (a.tdiv b))) := by
  intro N ac w hf hrd
  simp [execOp, ho, hf.eval hx, hf.eval hy, eqGuard_quo, binOp_quo, Op.intDiv, hb]
omit G in
theorem Ev.rem {o : Oper} {t yt : Nat} {x y : Operand} {k : IntKind} {a b : Int} (ho : o.op = .binOp .rem t x y yt) (hx : ev e x = some (.int k a)) (hy : ev e y = some (.int k b)) (hb : b ≠ 0) : Ev P o e S M (.int k (a.tmod b)) := by
  intro N ac w hf hrd
  simp [execOp, ho, hf.eval hx, hf.eval hy, eqGuard_rem, binOp_rem, Op.intDiv, hb]
omit G in
theorem Ev.shl {o : Oper} {t yt : Nat} {x y : Operand} {k k' : IntKind} {a b : Int} (ho : o.op = .binOp .shl t x y yt) (hx : ev e x = some (.int k a)) (hy : ev e y = some (.int k' b)) (hb : 0 ≤ b) : Ev P o e S M (.int k (k.wrap (a * 2 ^ (min b.toNat k.bits)))) := by
  intro N ac w hf hrd
  have : ¬ b < 0 := by omega
  simp [execOp, ho, hf.eval hx, hf.eval hy, eqGuard_shl, binOp_shl, Op.shift, this]
omit G in
theorem Ev.shr {o : Oper} {t yt : Nat} {x y : Operand} {k k' : IntKind} {a b : Int} (ho : o.op = .binOp .shr t x y yt) (hx : ev e x = some (.int k a)) (hy : ev e y = some (.int k' b)) (hb : 0 ≤ b) : Ev P o e S M (.int k (a.fdiv (2 ^ (min b.toNat k.bits)))) := by
  intro N ac w hf hrd
  have : ¬ b < 0 := by omega
  simp [execOp, ho, hf.eval hx, hf.eval hy, eqGuard_shr, binOp_shr, Op.shift, this]
end

/-! ## The stack of code -/
inductive It where
  | c (c : Code)
  | blk (id : Nat)
  | lp (J : Act → World → Prop)

def wpT (P : Program) (fn : Func) (Rf : Ending → World → Prop) : List It → Exit → Act → World → Prop
  | [], x, a, w => bodyPost P fn Rf x a w
  | .c c :: k, .normal, a, w => c.wp P (wpT P fn Rf k) a w
  | .c _ :: k, x, a, w => wpT P fn Rf k x a w
  | .blk _ :: k, .normal, a, w => wpT P fn Rf k .normal a w
  | .blk id :: k, .exit j, a, w => if j = id then wpT P fn Rf k .normal a w else wpT P fn Rf k (.exit j) a w
  | .blk _ :: k, x, a, w => wpT P fn Rf k x a w
  | .lp J :: _, .normal, a, w => J a w
  | .lp _ :: k, x, a, w => wpT P fn Rf k x a w

def R (P : Program) (fn : Func) (N : Nat) (Rf : Ending → World → Prop) (w0 : World) (X : List Nat) (M0 : Mem) (k : List It) (e : Env) (S : List Own) (M : Mem) : Prop :=
  ∀ a w, Fits N e a → St w0 X M0 S M w → wpT P fn Rf k .normal a w

def WL (P : Program) (fn : Func) (N : Nat) (Rf : Ending → World → Prop) (w0 : World) (X : List Nat) (M0 : Mem) (k : List It) (ops : Array Oper) (l : List Oper) (e : Env) (S : List Own) (M : Mem) : Prop :=
  ∀ a w, Fits N e a → St w0 X M0 S M w → wpList P ops (wpT P fn Rf k) l a w

section
variable {P : Program} {fn : Func} {N : Nat} {Rf : Ending → World → Prop} {w0 : World} {X : List Nat} {M0 : Mem} {k : List It} {e : Env} {S : List Own} {M : Mem}

theorem wpT_goto (k : List It) (l : Nat) (a : Act) (w : World) : ¬ wpT P fn Rf k (.goto l) a w := by
  induction k with
  | nil => simp [wpT, bodyPost]
  | cons x k ih => cases x <;> simpa [wpT] using ih
theorem wpT_ret (k : List It) (a : Act) (w : World) : wpT P fn Rf k .ret a w = wpT P fn Rf [] .normal a w := by
  induction k with
  | nil => rfl
  | cons x k ih => cases x <;> simpa [wpT] using ih

theorem R.skip (h : R P fn N Rf w0 X M0 k e S M) : R P fn N Rf w0 X M0 (.c .skip :: k) e S M := fun a w hf hs => wp_skip (h a w hf hs)
theorem R.label {l : Nat} (h : R P fn N Rf w0 X M0 k e S M) : R P fn N Rf w0 X M0 (.c (.label l) :: k) e S M := fun a w hf hs => wp_label (h a w hf hs)
theorem R.seq {x y : Code} (h : R P fn N Rf w0 X M0 (.c x :: .c y :: k) e S M) : R P fn N Rf w0 X M0 (.c (.seq x y) :: k) e S M := by
  intro a w hf hs
  refine wp_seq (Code.wp_mono (fun x a w q => ?_) (h a w hf hs))
  cases x <;> exact q
theorem R.block {id : Nat} {x : Code} (h : R P fn N Rf w0 X M0 (.c x :: .blk id :: k) e S M) : R P fn N Rf w0 X M0 (.c (.block id x) :: k) e S M := by
  intro a w hf hs
  refine wp_block (Code.wp_mono (fun x a w q => ?_) (h a w hf hs))
  cases x <;> exact q
theorem R.blk {id : Nat} (h : R P fn N Rf w0 X M0 k e S M) : R P fn N Rf w0 X M0 (.blk id :: k) e S M := fun a w hf hs => h a w hf hs
theorem R.scope {x : Code} (h : R P fn N Rf w0 X M0 (.c x :: k) e S M) : R P fn N Rf w0 X M0 (.c (.scope x) :: k) e S M := by
  intro a w hf hs
  refine wp_scope_straight (Code.wp_mono (fun x a w q => ?_) (h a w hf hs))
  cases x <;> first | exact q | exact (wpT_goto _ _ _ _ q).elim
def unw (id : Nat) : List It → Option (List It)
  | [] => none
  | .blk j :: k => bif Nat.beq id j then some k else unw id k
  | .c _ :: k => unw id k
  | .lp _ :: k => unw id k
theorem unw_some {id : Nat} : ∀ (k k' : List It), unw id k = some k' → ∀ a w, wpT P fn Rf k' .normal a w → wpT P fn Rf k (.exit id) a w
  | [], k', h, a, w, q => by cases h
  | .blk j :: k, k', h, a, w, q => by
    simp only [unw] at h
    by_cases hj : id = j
    · subst hj
      simp at h
      subst h
      simpa [wpT] using q
    · rw [Nat.beq_eq_false_iff_ne.2 hj] at h
      simp only [wpT, if_neg hj]
      exact unw_some k k' h a w q
  | .c _ :: k, k', h, a, w, q => unw_some k k' h a w q
  | .lp _ :: k, k', h, a, w, q => unw_some k k' h a w q
theorem R.exit {id : Nat} {k' : List It} (hk : unw id k = some k') (h : R P fn N Rf w0 X M0 k' e S M) : R P fn N Rf w0 X M0 (.c (.exit id) :: k) e S M :=
  fun a w hf hs => wp_exit (unw_some k k' hk a w (h a w hf hs))
theorem R.ret (h : R P fn N Rf w0 X M0 [] e S M) : R P fn N Rf w0 X M0 (.c .ret :: k) e S M := by
  intro a w hf hs
  exact wp_ret (by rw [wpT_ret]; exact h a w hf hs)
theorem R.region {id : Nat} {l : List Oper} (h : WL P fn N Rf w0 X M0 k l.toArray l e S M) : R P fn N Rf w0 X M0 (.c (.region id l.toArray false) :: k) e S M :=
  fun a w hf hs => wp_region_lit (h a w hf hs)
theorem WL.nil {ops : Array Oper} (h : R P fn N Rf w0 X M0 k e S M) : WL P fn N Rf w0 X M0 k ops [] e S M := fun a w hf hs => h a w hf hs
theorem R.cond {c : Operand} {x y : Code} {b : Bool} (hc : ev e c = some (.bool b)) (ht : b = true → R P fn N Rf w0 X M0 (.c x :: k) e S M) (hf : b = false → R P fn N Rf w0 X M0 (.c y :: k) e S M) :
    R P fn N Rf w0 X M0 (.c (.cond c x y) :: k) e S M := by
  intro a w hfit hs
  cases b with
  | true => exact wp_cond_true (hfit.eval hc) (ht rfl a w hfit hs)
  | false => exact wp_cond_false (hfit.eval hc) (hf rfl a w hfit hs)
theorem R.condT {c : Operand} {x y : Code} (hc : ev e c = some (.bool true)) (h : R P fn N Rf w0 X M0 (.c x :: k) e S M) : R P fn N Rf w0 X M0 (.c (.cond c x y) :: k) e S M := R.cond hc (fun _ => h) (fun h => by cases h)
theorem R.condF {c : Operand} {x y : Code} (hc : ev e c = some (.bool false)) (h : R P fn N Rf w0 X M0 (.c y :: k) e S M) : R P fn N Rf w0 X M0 (.c (.cond c x y) :: k) e S M := R.cond hc (fun h => by cases h) (fun _ => h)
theorem R.condP {c : Operand} {x y : Code} {p : Prop} {inst : Decidable p} (hc : ev e c = some (.bool (@decide p inst))) (ht : p → R P fn N Rf w0 X M0 (.c x :: k) e S M) (hf : ¬ p → R P fn N Rf w0 X M0 (.c y :: k) e S M) :
    R P fn N Rf w0 X M0 (.c (.cond c x y) :: k) e S M := R.cond hc (fun h => ht (of_decide_eq_true h)) (fun h => hf (of_decide_eq_false h))
theorem R.condN {c : Operand} {x y : Code} {p : Prop} {inst : Decidable p} (hc : ev e c = some (.bool (!(@decide p inst)))) (ht : ¬ p → R P fn N Rf w0 X M0 (.c x :: k) e S M) (hf : p → R P fn N Rf w0 X M0 (.c y :: k) e S M) :
    R P fn N Rf w0 X M0 (.c (.cond c x y) :: k) e S M := R.cond hc (fun h => ht (by simpa using h)) (fun h => hf (by simpa using h))

/-- Slots, own blocks and memory are let go. -/
theorem R.weak {e2 : Env} {S2 : List Own} (he : Sub e2 e) (hS : S2.Sublist S) (h : R P fn N Rf w0 X M0 k e2 S2 M) : R P fn N Rf w0 X M0 k e S M :=
  fun a w hf hs => h a w (hf.sub he) (hs.drop hS)
theorem R.keep (l : List Nat) {e2 : Env} (he : keepK l e some = some e2) (h : R P fn N Rf w0 X M0 k e2 S M) : R P fn N Rf w0 X M0 k e S M := by
  obtain ⟨r, hr, hs⟩ := keepK_some l e _ _ he
  cases hr
  exact R.weak hs (List.Sublist.refl _) h
theorem R.perm {S2 : List Own} (hS : S2.Perm S) (h : R P fn N Rf w0 X M0 k e S2 M) : R P fn N Rf w0 X M0 k e S M := fun a w hf hs => h a w hf (hs.perm hS)
theorem WL.perm {ops : Array Oper} {l : List Oper} {S2 : List Own} (hS : S2.Perm S) (h : WL P fn N Rf w0 X M0 k ops l e S2 M) : WL P fn N Rf w0 X M0 k ops l e S M := fun a w hf hs => h a w hf (hs.perm hS)
theorem WL.weak {ops : Array Oper} {l : List Oper} {e2 : Env} {S2 : List Own} (he : Sub e2 e) (hS : S2.Sublist S) (h : WL P fn N Rf w0 X M0 k ops l e2 S2 M) : WL P fn N Rf w0 X M0 k ops l e S M :=
  fun a w hf hs => h a w (hf.sub he) (hs.drop hS)
/-- What every state knows of M. -/
theorem R.mle (h : Mle M0 M → R P fn N Rf w0 X M0 k e S M) : R P fn N Rf w0 X M0 k e S M := fun a w hf hs => h hs.mle a w hf hs
/-- A slot's value is written otherwise. -/
theorem R.same (i : Nat) {v : Value} (v' : Value) (h0 : look e i = some v) (hv : v = v') (h : R P fn N Rf w0 X M0 k ((i, v') :: e) S M) : R P fn N Rf w0 X M0 k e S M := by
  subst hv
  refine R.weak (fun j u hu => ?_) (List.Sublist.refl _) h
  simp only [look] at hu
  by_cases hij : i = j
  · subst hij; simp at hu; subst hu; exact h0
  · rw [Nat.beq_eq_false_iff_ne.2 hij] at hu; exact hu
theorem WL.same {ops : Array Oper} {l : List Oper} (i : Nat) {v : Value} (v' : Value) (h0 : look e i = some v) (hv : v = v') (h : WL P fn N Rf w0 X M0 k ops l ((i, v') :: e) S M) : WL P fn N Rf w0 X M0 k ops l e S M := by
  subst hv
  refine WL.weak (fun j u hu => ?_) (List.Sublist.refl _) h
  simp only [look] at hu
  by_cases hij : i = j
  · subst hij; simp at hu; subst hu; exact h0
  · rw [Nat.beq_eq_false_iff_ne.2 hij] at hu; exact hu
/-- A slot that holds a truth value: both ways. -/
theorem WL.cases {ops : Array Oper} {l : List Oper} (i : Nat) {b : Bool} (h0 : look e i = some (.bool b)) (ht : b = true → WL P fn N Rf w0 X M0 k ops l ((i, .bool true) :: e) S M) (hf : b = false → WL P fn N Rf w0 X M0 k ops l ((i, .bool false) :: e) S M) :
    WL P fn N Rf w0 X M0 k ops l e S M := by
  cases b with
  | true => exact WL.same i _ h0 rfl (ht rfl)
  | false => exact WL.same i _ h0 rfl (hf rfl)
theorem WL.casesP {ops : Array Oper} {l : List Oper} (i : Nat) {p : Prop} {inst : Decidable p} (h0 : look e i = some (.bool (@decide p inst))) (ht : p → WL P fn N Rf w0 X M0 k ops l ((i, .bool true) :: e) S M) (hf : ¬ p → WL P fn N Rf w0 X M0 k ops l ((i, .bool false) :: e) S M) :
    WL P fn N Rf w0 X M0 k ops l e S M := WL.cases i h0 (fun h => ht (of_decide_eq_true h)) (fun h => hf (of_decide_eq_false h))
theorem WL.casesN {ops : Array Oper} {l : List Oper} (i : Nat) {p : Prop} {inst : Decidable p} (h0 : look e i = some (.bool (!(@decide p inst)))) (ht : ¬ p → WL P fn N Rf w0 X M0 k ops l ((i, .bool true) :: e) S M) (hf : p → WL P fn N Rf w0 X M0 k ops l ((i, .bool false) :: e) S M) :
    WL P fn N Rf w0 X M0 k ops l e S M := WL.cases i h0 (fun h => ht (by simpa using h)) (fun h => hf (by simpa using h))

/-- A loop: what holds at every round's head, for a ghost x; the measure goes down. -/
theorem R.loop {α : Type} {body : Code} (E : α → Env) (SS : α → List Own) (MM : α → Mem) (Φ : α → Prop) (μ : α → Nat) (x0 : α) (h0 : Φ x0) (he : Sub (E x0) e) (hS : (SS x0).Sublist S) (hM : MM x0 = M)
    (round : ∀ x (J : Act → World → Prop), Φ x → (∀ y e' S' M', Φ y → μ y < μ x → Sub (E y) e' → (SS y).Sublist S' → MM y = M' → R P fn N Rf w0 X M0 (.lp J :: k) e' S' M') → R P fn N Rf w0 X M0 (.c body :: .lp J :: k) (E x) (SS x) (MM x)) :
    R P fn N Rf w0 X M0 (.c (.loop body) :: k) e S M := by
  intro a w hf hs
  subst hM
  refine wp_loop_ghost (fun n a w => ∃ x, μ x = n ∧ Φ x ∧ Fits N (E x) a ∧ St w0 X M0 (SS x) (MM x) w) (μ x0) ⟨x0, rfl, h0, hf.sub he, hs.drop hS⟩ ?_
  rintro n a w ⟨x, rfl, hΦ, hfit, hst⟩
  have := round x (fun a' w' => ∃ n', n' < μ x ∧ ∃ y, μ y = n' ∧ Φ y ∧ Fits N (E y) a' ∧ St w0 X M0 (SS y) (MM y) w') hΦ
    (fun y e' S' M' hy hlt hE hSS hMM a' w' hf' hs' => ⟨μ y, hlt, y, rfl, hy, hf'.sub hE, by subst hMM; exact hs'.drop hSS⟩) a w hfit hst
  refine Code.wp_mono (fun z a w q => ?_) this
  cases z <;> exact q
end

end Go.Proofs.Ytaaiimlaklpjpaa
