/- The engine, tenth part: loops that keep the slots that do not turn; thawing; reads. No condition. -/
import Derived.Test.YtaaiimlaklpjpaaEngI
namespace Go.Proofs.Ytaaiimlaklpjpaa
open Go
set_option linter.unusedVariables false

/-- The slots of a list, as far as they stand in e. -/
def keepS {α : Type} : List Nat → Env → (Env → Option α) → Option α
  | [], _, k => k []
  | i :: l, e, k => match look e i with
    | some v => keepS l e (fun r => k ((i, v) :: r))
    | none => keepS l e k
theorem keepS_some {α : Type} : ∀ (l : List Nat) (e : Env) (k : Env → Option α) (x : α), keepS l e k = some x → ∃ r, k r = some x ∧ Sub r e := by
  intro l
  induction l with
  | nil => intro e k x h; exact ⟨[], h, Sub.nil e⟩
  | cons i l ih =>
    intro e k x h
    simp only [keepS] at h
    split at h
    · rename_i v hv
      obtain ⟨r, hr, hs⟩ := ih e _ x h
      exact ⟨(i, v) :: r, hr, Sub.cons hv hs⟩
    · exact ih e k x h

theorem look_app (a b : Env) (i : Nat) : look (a ++ b) i = (look a i).or (look b i) := by
  induction a with
  | nil => rfl
  | cons p a ih =>
    obtain ⟨j, v⟩ := p
    simp only [List.cons_append, look]
    cases Nat.beq j i with
    | true => rfl
    | false => exact ih
theorem Sub.app {a b e : Env} (h1 : Sub a e) (h2 : Sub b e) : Sub (a ++ b) e := by
  intro i v h
  rw [look_app] at h
  cases ha : look a i with
  | some u => rw [ha] at h; exact h1 i v (by rw [ha]; exact h)
  | none => rw [ha] at h; exact h2 i v h
/-- E in front of what is kept, written out. -/
def appK {α : Type} : Env → Env → (Env → α) → α
  | [], b, k => k b
  | p :: a, b, k => appK a b (fun r => k (p :: r))
theorem appK_eq {α : Type} : ∀ (a b : Env) (k : Env → α), appK a b k = k (a ++ b)
  | [], b, k => rfl
  | p :: a, b, k => by simp only [appK, appK_eq a b, List.cons_append]

section
variable {P : Program} {fn : Func} {N : Nat} {Rf : Ending → World → Prop} {w0 : World} {X : List Nat} {M0 : Mem} {k : List It} {e : Env} {S : List Own} {M : Mem} {ops : Array Oper} {rest : List Oper} {o : Oper} {d : Nat}

theorem R.keeps (l : List Nat) {e2 : Env} (he : keepS l e some = some e2) (h : R P fn N Rf w0 X M0 k e2 S M) : R P fn N Rf w0 X M0 k e S M := by
  obtain ⟨r, hr, hs⟩ := keepS_some l e _ _ he
  cases hr
  exact R.weak hs (List.Sublist.refl _) h

/-- A loop: the slots of l stay as they are; E tells the others. -/
theorem R.loopK {α : Type} {body : Code} (l : List Nat) {kp : Env} (hk : keepS l e some = some kp) (E : α → Env) (SS : α → List Own) (MM : α → Mem) (Φ : α → Prop) (μ : α → Nat) (x0 : α) (h0 : Φ x0) (he : Sub (E x0) e) (hS : (SS x0).Sublist S) (hM : MM x0 = M)
    (round : ∀ x (J : Act → World → Prop), Φ x → (∀ y e' S' M', Φ y → μ y < μ x → Sub (E y) e' → Sub kp e' → (SS y).Sublist S' → MM y = M' → R P fn N Rf w0 X M0 (.lp J :: k) e' S' M') → R P fn N Rf w0 X M0 (.c body :: .lp J :: k) (appK (E x) kp id) (SS x) (MM x)) :
    R P fn N Rf w0 X M0 (.c (.loop body) :: k) e S M := by
  obtain ⟨r, hr, hs⟩ := keepS_some l e _ _ hk
  cases hr
  refine R.loop (fun x => E x ++ kp) SS MM Φ μ x0 h0 (Sub.app he hs) hS hM fun x J hx again => ?_
  have := round x J hx fun y e' S' M' hy hl h1 h2 h3 h4 => again y e' S' M' hy hl (Sub.app h1 h2) h3 h4
  rw [appK_eq] at this
  exact this

variable [G : Prg P]
/-- A store into an own row. -/
theorem WL.sr {t : Nat} {td : TD} {x y : Operand} {g off cap n size el : Nat} {xs us : List Value} {v : Value} {S' : List Own} (xs' : List Value) (hg : o.guard = none) (hd : o.dst = none) (ho : o.op = .store t x y) (ht : tlook G.T t = some td) (hx : ev e x = some (.pointer (some ⟨g, off, none⟩))) (hy : ev e y = some v)
    (hv : v.cells = us.toArray) (hlen : Nat.beq us.length td.size = true) (h1 : allOne us = true) (hu : Upd S (.row (some g) cap el size n xs) (.row (some g) cap el size n xs') S') (hfit : off + us.length ≤ xs.length) (hset : setsL off us xs = xs')
    (h : WL P fn N Rf w0 X M0 k ops rest e S' M) : WL P fn N Rf w0 X M0 k ops (o :: rest) e S M := by
  subst hset
  exact WL.op hg (OpW.storeR ho hd ht hx hy hv hlen h1 hfit hu) (by rintro _ _ _ ⟨rfl, rfl, rfl⟩; exact h)
omit G in
theorem Ev.eqv {v v' : Value} (h : Ev P o e S M v) (hv : v = v') : Ev P o e S M v' := hv ▸ h
end
theorem perm3 {α : Type} (x y z : α) (l : List α) : (x :: y :: z :: l).Perm (z :: y :: x :: l) := (List.reverse_perm [z, y, x]).append_right l
theorem split_at {α : Type} {l : List α} {k : Nat} (h : k < l.length) : ∃ A o C, l = A ++ o :: C ∧ A.length = k :=
  ⟨l.take k, l[k], l.drop (k + 1), by rw [← List.drop_eq_getElem_cons h, List.take_append_drop], by rw [List.length_take]; omega⟩
theorem setsL_mid {A us vs B : List Value} {off : Nat} (h : A.length = off) (hl : us.length = vs.length) : setsL off us (A ++ (vs ++ B)) = A ++ (us ++ B) := by
  subst h
  rw [setsL_eq _ _ _ (by rw [List.length_append, List.length_append]; omega), List.take_left, hl, ← List.drop_drop, List.drop_left, List.drop_left, List.append_assoc]
end Go.Proofs.Ytaaiimlaklpjpaa
