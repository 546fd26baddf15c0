/- The engine, second part: the table of types; operations that only yield a value; the stack of code that is left. No condition. -/
import Derived.Test.YtaaiimlaklpjpaaEng
namespace Go.Proofs.Ytaaiimlaklpjpaa
open Go
set_option linter.unusedVariables false

/-! ## The table of types -/
structure TD where
  desc : TypeDesc
  size : Nat
  bytes : Nat
  zero : Value

def tlook : List (Nat × TD) → Nat → Option TD
  | [], _ => none
  | (j, v) :: t, i => bif Nat.beq j i then some v else tlook t i

def TDOk (P : Program) (t : Nat) (d : TD) : Prop := P.underlying t = some d.desc ∧ (P.info? t).map (fun i => (i.size, i.bytes, i.zero)) = some (d.size, d.bytes, some d.zero)

class Prg (P : Program) where
  T : List (Nat × TD)
  ok : ∀ p ∈ T, TDOk P p.1 p.2
  wide : P.follows .mixedOrders = true

theorem tlook_mem : ∀ (T : List (Nat × TD)) {t : Nat} {d : TD}, tlook T t = some d → (t, d) ∈ T
  | [], t, d, h => by cases h
  | (j, v) :: T, t, d, h => by
    simp only [tlook] at h
    cases hb : Nat.beq j t with
    | true =>
      rw [hb] at h
      simp at h
      subst h
      rw [Nat.eq_of_beq_eq_true hb]
      exact List.mem_cons_self
    | false => rw [hb] at h; exact List.mem_cons_of_mem _ (tlook_mem T h)

section
variable {P : Program} [G : Prg P] {t : Nat} {d : TD}
theorem Prg.get (h : tlook G.T t = some d) : TDOk P t d := G.ok _ (tlook_mem _ h)
theorem Prg.under (h : tlook G.T t = some d) : P.underlying t = some d.desc := (Prg.get h).1
theorem Prg.info (h : tlook G.T t = some d) : ∃ i, P.info? t = some i ∧ i.size = d.size ∧ i.bytes = d.bytes ∧ i.zero = some d.zero := by
  obtain ⟨i, hi, hz⟩ := Option.map_eq_some_iff.1 (Prg.get h).2
  simp only [Prod.mk.injEq] at hz
  exact ⟨i, hi, hz.1, hz.2.1, hz.2.2⟩
theorem run_sizeOfT (h : tlook G.T t = some d) (w : World) : (sizeOf t).run P w = .ok d.size w := by
  obtain ⟨i, hi, h1, _, _⟩ := Prg.info h
  simp [sizeOf, typeInfo, hi, h1]
theorem run_zeroT (h : tlook G.T t = some d) (w : World) : (zeroValue t).run P w = .ok d.zero w := by
  obtain ⟨i, hi, _, _, h1⟩ := Prg.info h
  simp [zeroValue, typeInfo, hi, h1]
def TD.agg (d : TD) : Bool := match d.desc with | .struct _ | .array _ _ => true | _ => false
theorem run_isAggT (h : tlook G.T t = some d) (w : World) : (isAgg t).run P w = .ok d.agg w := by
  simp only [isAgg, Sem.run_bind, run_underlying (Prg.under h), Result.andThen_ok, TD.agg]
  cases d.desc <;> rfl
end

/-! ## Lists, read so that what comes out is written out -/
def getK {α : Type} : Nat → List Value → (Value → Option α) → Option α
  | _, [], _ => none
  | 0, v :: _, k => k v
  | n + 1, _ :: l, k => getK n l k
def takeK {α : Type} : Nat → List Value → (List Value → Option α) → Option α
  | 0, _, k => k []
  | _ + 1, [], _ => none
  | n + 1, v :: l, k => takeK n l (fun r => k (v :: r))
def dropK {α : Type} : Nat → List Value → (List Value → Option α) → Option α
  | 0, l, k => k l
  | _ + 1, [], _ => none
  | n + 1, _ :: l, k => dropK n l k
def putK {α : Type} : Nat → Value → List Value → (List Value → Option α) → Option α
  | _, _, [], _ => none
  | 0, u, _ :: l, k => k (u :: l)
  | n + 1, u, v :: l, k => putK n u l (fun r => k (v :: r))
def putsK {α : Type} : Nat → List Value → List Value → (List Value → Option α) → Option α
  | _, [], l, k => k l
  | n, u :: us, l, k => putK n u l (fun r => putsK (n + 1) us r k)

theorem getK_some {α : Type} {k : Value → Option α} {x : α} : ∀ (n : Nat) (l : List Value), getK n l k = some x → ∃ v, l[n]? = some v ∧ k v = some x
  | n, [], h => by cases n <;> cases h
  | 0, v :: l, h => ⟨v, rfl, h⟩
  | n + 1, v :: l, h => by simpa using getK_some n l h
theorem takeK_some {α : Type} {x : α} : ∀ (n : Nat) (l : List Value) (k : List Value → Option α), takeK n l k = some x → n ≤ l.length ∧ k (l.take n) = some x
  | 0, l, k, h => ⟨Nat.zero_le _, by simpa [takeK] using h⟩
  | n + 1, [], k, h => by cases h
  | n + 1, v :: l, k, h => by
    obtain ⟨h1, h2⟩ := takeK_some n l _ h
    exact ⟨by simp; omega, by simpa using h2⟩
theorem dropK_some {α : Type} {x : α} : ∀ (n : Nat) (l : List Value) (k : List Value → Option α), dropK n l k = some x → n ≤ l.length ∧ k (l.drop n) = some x
  | 0, l, k, h => ⟨Nat.zero_le _, by simpa [dropK] using h⟩
  | n + 1, [], k, h => by cases h
  | n + 1, v :: l, k, h => by
    obtain ⟨h1, h2⟩ := dropK_some n l _ h
    exact ⟨by simp; omega, by simpa using h2⟩
theorem putK_some {α : Type} {x : α} {u : Value} : ∀ (n : Nat) (l : List Value) (k : List Value → Option α), putK n u l k = some x → n < l.length ∧ k (l.set n u) = some x
  | n, [], k, h => by cases n <;> cases h
  | 0, v :: l, k, h => ⟨by simp, by simpa [putK] using h⟩
  | n + 1, v :: l, k, h => by
    obtain ⟨h1, h2⟩ := putK_some n l _ h
    exact ⟨by simp; omega, by simpa using h2⟩
def setsL : Nat → List Value → List Value → List Value
  | _, [], l => l
  | n, u :: us, l => setsL (n + 1) us (l.set n u)
theorem setsL_length : ∀ (us : List Value) (n : Nat) (l : List Value), (setsL n us l).length = l.length
  | [], n, l => rfl
  | u :: us, n, l => by simp [setsL, setsL_length us]
theorem putsK_some {α : Type} {x : α} : ∀ (us : List Value) (n : Nat) (l : List Value) (k : List Value → Option α), putsK n us l k = some x → (us = [] ∨ n + us.length ≤ l.length) ∧ k (setsL n us l) = some x
  | [], n, l, k, h => ⟨.inl rfl, h⟩
  | u :: us, n, l, k, h => by
    obtain ⟨h1, h2⟩ := putK_some n l _ h
    obtain ⟨h3, h4⟩ := putsK_some us (n + 1) _ k h2
    refine ⟨.inr ?_, h4⟩
    simp at h3 ⊢
    rcases h3 with rfl | h3
    · simp; omega
    · omega

/-! ## Operations that yield a value and do nothing else -/
def getF : Nat → List Field → Option Field
  | _, [] => none
  | 0, f :: _ => some f
  | n + 1, _ :: l => getF n l
theorem getF_eq : ∀ (n : Nat) (l : List Field), getF n l = l[n]?
  | n, [] => by cases n <;> rfl
  | 0, f :: l => rfl
  | n + 1, f :: l => by simp only [getF, List.getElem?_cons_succ]; exact getF_eq n l
def fieldOff (T : List (Nat × TD)) (s f : Nat) : Option Nat :=
  match tlook T s with
  | some ⟨.struct fs, _, _, _⟩ => match getF f fs.toList with
    | some ⟨_, ty, off, _, _, _, _⟩ => match tlook T ty with
      | some d => bif Nat.beq d.size 0 then none else some off
      | none => none
    | none => none
  | _ => none

def intPop (op : BinOp) (k k' : IntKind) (a b : Int) : Option Value :=
  if k = k' then match op with
    | .add => some (.int k (k.wrap (a + b)))
    | .sub => some (.int k (k.wrap (a - b)))
    | .mul => some (.int k (k.wrap (a * b)))
    | .and => some (.int k (bits .and k a b))
    | .or => some (.int k (bits .or k a b))
    | .xor => some (.int k (bits .xor k a b))
    | .andNot => some (.int k (bits .andNot k a b))
    | .eql => some (.bool (decide (a = b)))
    | .neq => some (.bool (!decide (a = b)))
    | .lss => some (.bool (decide (a < b)))
    | .leq => some (.bool (decide (a ≤ b)))
    | .gtr => some (.bool (decide (b < a)))
    | .geq => some (.bool (decide (b ≤ a)))
    | _ => none
  else none

def evK {α : Type} : List Operand → Env → (List Value → Option α) → Option α
  | [], _, k => k []
  | x :: l, e, k => match ev e x with
    | some v => evK l e (fun r => k (v :: r))
    | none => none

/-- What an operation yields by itself. -/
def pop (T : List (Nat × TD)) (e : Env) : Op → Option Value
  | .move x => ev e x
  | .assign x => ev e x
  | .pick c a b => match ev e c with
    | some (.bool true) => ev e a
    | some (.bool false) => ev e b
    | _ => none
  | .binOp op t x y _ => match ev e x, ev e y with
    | some (.int k a), some (.int k' b) => match op with
      | .shl => none
      | .shr => none
      | .quo => none
      | .rem => none
      | op => intPop op k k' a b
    | some (.bool a), some (.bool b) => match tlook T t with
      | some ⟨.bool, _, _, _⟩ => match op with
        | .eql => some (.bool (a == b))
        | .neq => some (.bool (!(a == b)))
        | _ => none
      | _ => none
    | some (.slice a _ _), some (.slice none _ _) => match tlook T t with
      | some ⟨.slice _, _, _, _⟩ => match op with
        | .eql => some (.bool a.isNone)
        | .neq => some (.bool (!a.isNone))
        | _ => none
      | _ => none
    | some (.pointer a), some (.pointer none) => match tlook T t with
      | some ⟨.pointer _, _, _, _⟩ => match op with
        | .eql => some (.bool a.isNone)
        | .neq => some (.bool (!a.isNone))
        | _ => none
      | _ => none
    | _, _ => none
  | .unOp op _ x => match op, ev e x with
    | .not, some (.bool b) => some (.bool (!b))
    | .neg, some (.int k n) => some (.int k (k.wrap (0 - n)))
    | _, _ => none
  | .convert src dst x => match tlook T src, tlook T dst, ev e x with
    | some ⟨.int _, _, _, _⟩, some ⟨.int k, _, _, _⟩, some (.int _ n) => some (.int k (k.wrap n))
    | _, _, _ => none
  | .fieldAddr s x f => match fieldOff T s f, ev e x with
    | some off, some (.pointer (some ⟨b, o, none⟩)) => some (.pointer (some ⟨b, o + off, none⟩))
    | _, _ => none
  | .extract t ix => match ev e t with
    | some (.tuple vs) => getK ix vs.toList some
    | _ => none
  | .nilCheck x => match ev e x with
    | some (.pointer (some a)) => some (.pointer (some a))
    | _ => none
  | .makeFunc fn first captured => match evK first.toList e (fun l => evK captured.toList e (fun c => some (.func fn l.toArray c.toArray))) with
    | some v => some v
    | none => none
  | .call c => match c.callee with
    | .builtin .len => match c.argTypes.toList, c.args.toList with
      | [t], [x] => match tlook T t, ev e x with
        | some ⟨.slice _, _, _, _⟩, some (.slice _ n _) => some (.int .i64 n)
        | _, _ => none
      | _, _ => none
    | .builtin .min => match c.args.toList with
      | [x, y] => match ev e x, ev e y with
        | some (.int k a), some (.int _ b) => some (.int k (if b < a then b else a))
        | _, _ => none
      | _ => none
    | .builtin .max => match c.args.toList with
      | [x, y] => match ev e x, ev e y with
        | some (.int k a), some (.int _ b) => some (.int k (if b > a then b else a))
        | _, _ => none
      | _ => none
    | _ => none
  | _ => none

/-- The operation yields v wherever the environment, the own blocks and M are met. -/
def Ev (P : Program) (o : Oper) (e : Env) (S : List Own) (M : Mem) (v : Value) : Prop :=
  ∀ N a w, Fits N e a → Rd S M w → (execOp a.eval o).run P w = .ok (.value v) w

theorem evK_some {α : Type} {N : Nat} {e : Env} {a : Act} (hf : Fits N e a) {x : α} : ∀ (l : List Operand) (k : List Value → Option α), evK l e k = some x → k (l.map a.eval) = some x
  | [], k, h => h
  | o :: l, k, h => by
    simp only [evK] at h
    split at h
    · rename_i v hv
      have := evK_some hf l _ h
      simpa [hf.eval hv] using this
    · cases h

section
variable {P : Program}
theorem equal_eq (t : TypeId) (x y : Value) : Op.equal t x y = Op.equalIn (9999 + 1) t x y := rfl
theorem equal_bool (t : TypeId) (a b : Bool) (w : World) (h : P.underlying t = some .bool) : (Op.equal t (.bool a) (.bool b)).run P w = .ok (a == b) w := by
  rw [equal_eq, Op.equalIn, Sem.run_bind, run_underlying h]
  rfl
theorem equal_slice (t el : TypeId) (a : Option Addr) (n c m d : Nat) (w : World) (h : P.underlying t = some (.slice el)) : (Op.equal t (.slice a n c) (.slice none m d)).run P w = .ok a.isNone w := by
  rw [equal_eq, Op.equalIn, Sem.run_bind, run_underlying h]
  cases a <;> rfl
theorem equal_ptr (t el : TypeId) (a : Option Addr) (w : World) (h : P.underlying t = some (.pointer el)) : (Op.equal t (.pointer a) (.pointer none)).run P w = .ok a.isNone w := by
  rw [equal_eq, Op.equalIn, Sem.run_bind, run_underlying h]
  cases a <;> rfl
theorem binOp_bool_eql (t : TypeId) (a b : Bool) (w : World) (h : P.underlying t = some .bool) : (binOp .eql t (.bool a) (.bool b)).run P w = .ok (.bool (a == b)) w := by
  rw [binOp, Sem.run_bind, equal_bool t a b w h]; rfl
  all_goals (intros; contradiction)
theorem binOp_bool_neq (t : TypeId) (a b : Bool) (w : World) (h : P.underlying t = some .bool) : (binOp .neq t (.bool a) (.bool b)).run P w = .ok (.bool (!(a == b))) w := by
  rw [binOp, Sem.run_bind, equal_bool t a b w h]; rfl
  all_goals (intros; contradiction)
theorem binOp_slice_eql (t el : TypeId) (a : Option Addr) (n c m d : Nat) (w : World) (h : P.underlying t = some (.slice el)) : (binOp .eql t (.slice a n c) (.slice none m d)).run P w = .ok (.bool a.isNone) w := by
  rw [binOp, Sem.run_bind, equal_slice t el a n c m d w h]; rfl
  all_goals (intros; contradiction)
theorem binOp_slice_neq (t el : TypeId) (a : Option Addr) (n c m d : Nat) (w : World) (h : P.underlying t = some (.slice el)) : (binOp .neq t (.slice a n c) (.slice none m d)).run P w = .ok (.bool (!a.isNone)) w := by
  rw [binOp, Sem.run_bind, equal_slice t el a n c m d w h]; rfl
  all_goals (intros; contradiction)
theorem binOp_ptr_eql (t el : TypeId) (a : Option Addr) (w : World) (h : P.underlying t = some (.pointer el)) : (binOp .eql t (.pointer a) (.pointer none)).run P w = .ok (.bool a.isNone) w := by
  rw [binOp, Sem.run_bind, equal_ptr t el a w h]; rfl
  all_goals (intros; contradiction)
theorem binOp_ptr_neq (t el : TypeId) (a : Option Addr) (w : World) (h : P.underlying t = some (.pointer el)) : (binOp .neq t (.pointer a) (.pointer none)).run P w = .ok (.bool (!a.isNone)) w := by
  rw [binOp, Sem.run_bind, equal_ptr t el a w h]; rfl
  all_goals (intros; contradiction)

end

section
variable {P : Program} [G : Prg P] {e : Env} {S : List Own} {M : Mem} {v : Value}

theorem fieldOff_some {s f off : Nat} (h : fieldOff G.T s f = some off) (b o : Nat) (w : World) :
    (Instr.fieldAt s (.pointer (some ⟨b, o, none⟩)) f).run P w = .ok (.pointer (some ⟨b, o + off, none⟩)) w := by
  unfold fieldOff at h
  split at h
  · rename_i fs sz by_ z hd
    split at h
    · rename_i _ ty of _ _ _ _ hfd0
      have hfd := hfd0
      rw [getF_eq] at hfd
      rw [Array.getElem?_toList] at hfd
      split at h
      · rename_i d' hd'
        cases hz : Nat.beq d'.size 0 with
        | true => rw [hz] at h; cases h
        | false =>
          rw [hz] at h
          simp at h
          subst h
          have hne : d'.size ≠ 0 := Nat.beq_eq_false_iff_ne.1 hz
          simp [Instr.fieldAt, run_underlying (Prg.under hd), hfd, Instr.sureAddr, fieldPlace, run_sizeOfT hd', hne, Addr.add_lit]
      · cases h
    · cases h
  · cases h

omit G in
theorem intPop_run {op : BinOp} {k k' : IntKind} {a b : Int} {t : TypeId} {x y : Operand} (w : World) (h : intPop op k k' a b = some v) :
    (do eqGuard op t x y (.int k a) (.int k' b); binOp op t (.int k a) (.int k' b)).run P w = .ok v w := by
  unfold intPop at h
  split at h
  · rename_i hk
    subst hk
    cases op <;> simp only [Option.some.injEq, reduceCtorEq] at h <;> subst h <;>
      simp only [eqGuard_at_int, binOp_add, binOp_sub, binOp_mul, binOp_and, binOp_or, binOp_xor, binOp_andNot, binOp_eql, binOp_neq, binOp_lss, binOp_leq, binOp_gtr, binOp_geq, Op.intArith, intBits_and, intBits_or, intBits_xor, intBits_andNot] <;> rfl
  · cases h

theorem pop_run {o : Oper} (h : pop G.T e o.op = some v) : Ev P o e S M v := by
  intro N a w hf hrd
  obtain ⟨dst, op, ty, pos, after, guard⟩ := o
  cases op with
  | move x => simp [execOp, hf.eval h]
  | assign x => simp [execOp, hf.eval h]
  | pick c x y =>
    simp only [pop] at h
    split at h
    · rename_i hc; simp [execOp, hf.eval hc, asBool, hf.eval h]
    · rename_i hc; simp [execOp, hf.eval hc, asBool, hf.eval h]
    · cases h
  | binOp op t x y yt =>
    simp only [pop] at h
    split at h
    · rename_i k i k' j hx hy
      have key : intPop op k k' i j = some v := by
        split at h <;> first | cases h | exact h
      have := intPop_run (P := P) (t := t) (x := x) (y := y) w key
      simp only [execOp, hf.eval hx, hf.eval hy]
      rw [Sem.run_bind, this]
      rfl
    · rename_i i j hx hy
      split at h
      · rename_i hd
        have hu := Prg.under hd
        split at h
        · simp only [Option.some.injEq] at h; subst h; simp [execOp, hf.eval hx, hf.eval hy, eqGuard_at_bool, binOp_bool_eql t i j w hu]
        · simp only [Option.some.injEq] at h; subst h; simp [execOp, hf.eval hx, hf.eval hy, eqGuard_at_bool, binOp_bool_neq t i j w hu]
        · cases h
      · cases h
    · rename_i i _ _ _ _ hx hy
      split at h
      · rename_i hd
        have hu := Prg.under hd
        split at h
        · simp only [Option.some.injEq] at h; subst h; simp [execOp, hf.eval hx, hf.eval hy, eqGuard_at_slice, binOp_slice_eql t _ i _ _ _ _ w hu]
        · simp only [Option.some.injEq] at h; subst h; simp [execOp, hf.eval hx, hf.eval hy, eqGuard_at_slice, binOp_slice_neq t _ i _ _ _ _ w hu]
        · cases h
      · cases h
    · rename_i i hx hy
      split at h
      · rename_i hd
        have hu := Prg.under hd
        split at h
        · simp only [Option.some.injEq] at h; subst h; simp [execOp, hf.eval hx, hf.eval hy, eqGuard_at_pointer, binOp_ptr_eql t _ i w hu]
        · simp only [Option.some.injEq] at h; subst h; simp [execOp, hf.eval hx, hf.eval hy, eqGuard_at_pointer, binOp_ptr_neq t _ i w hu]
        · cases h
      · cases h
    · cases h
  | unOp op t x =>
    simp only [pop] at h
    split at h
    · rename_i hx; simp only [Option.some.injEq] at h; subst h; simp [execOp, hf.eval hx, Op.unary]
    · rename_i hx; simp only [Option.some.injEq] at h; subst h; simp [execOp, hf.eval hx, Op.unary, Op.intArith]
    · cases h
  | convert src dst x =>
    simp only [pop] at h
    split at h
    · rename_i hs hd hx
      simp only [Option.some.injEq] at h
      subst h
      simp [execOp, hf.eval hx, convert, run_underlying (Prg.under hs), run_underlying (Prg.under hd), Conv.intToInt]
    · cases h
  | fieldAddr s x f =>
    simp only [pop] at h
    split at h
    · rename_i off b o hs hx
      simp only [Option.some.injEq] at h
      subst h
      simp [execOp, hf.eval hx, fieldOff_some hs]
    · cases h
  | extract t ix =>
    simp only [pop] at h
    split at h
    · rename_i vs hx
      obtain ⟨u, hu, hk⟩ := getK_some ix _ h
      simp only [Option.some.injEq] at hk
      subst hk
      have hu' : vs[ix]? = some u := by simpa using hu
      simp [execOp, hf.eval hx, Instr.extract, hu']
    · cases h
  | nilCheck x =>
    simp only [pop] at h
    split at h
    · rename_i hx; simp only [Option.some.injEq] at h; subst h; simp [execOp, hf.eval hx]
    · cases h
  | makeFunc fn first captured =>
    simp only [pop] at h
    split at h
    · rename_i u hu
      simp only [Option.some.injEq] at h
      subst h
      have h1 := evK_some hf captured.toList _ (evK_some hf first.toList _ hu)
      simp only [Option.some.injEq] at h1
      subst h1
      simp only [execOp, Instr.makeFunc, Sem.run_bind, Sem.run_pure, Result.andThen_ok]
      rw [← Array.toList_map, ← Array.toList_map]
    · cases h
  | call c =>
    obtain ⟨callee, args, argTypes⟩ := c
    simp only [pop] at h
    split at h
    · split at h
      · rename_i t x ht hx
        split at h
        · rename_i hd hxv
          simp only [Option.some.injEq] at h
          subst h
          have e1 : argTypes = #[t] := by rw [← Array.toArray_toList (xs := argTypes), ht]
          have e2 : args = #[x] := by rw [← Array.toArray_toList (xs := args), hx]
          subst e1 e2
          simp [execOp, resolve, invoke, builtin, hf.eval hxv, Builtin.len_, run_underlying (Prg.under hd), goInt]
        · cases h
      · cases h
    · split at h
      · rename_i x y hx
        split at h
        · rename_i hxv hyv
          simp only [Option.some.injEq] at h
          subst h
          have e2 : args = #[x, y] := by rw [← Array.toArray_toList (xs := args), hx]
          subst e2
          simp [execOp, resolve, invoke, builtin, hf.eval hxv, hf.eval hyv, Builtin.min_, Builtin.min2]
        · cases h
      · cases h
    · split at h
      · rename_i x y hx
        split at h
        · rename_i hxv hyv
          simp only [Option.some.injEq] at h
          subst h
          have e2 : args = #[x, y] := by rw [← Array.toArray_toList (xs := args), hx]
          subst e2
          simp [execOp, resolve, invoke, builtin, hf.eval hxv, hf.eval hyv, Builtin.max_, Builtin.max2]
        · cases h
      · cases h
    · cases h
  | _ => simp [pop] at h
end

end Go.Proofs.Ytaaiimlaklpjpaa
