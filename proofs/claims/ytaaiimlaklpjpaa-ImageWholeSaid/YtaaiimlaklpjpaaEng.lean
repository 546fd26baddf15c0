/- The engine: a small layer over the kit's rules. An environment is a list of slots with values; own blocks stand in a list S; memory that does not turn any more is a partial heap M; the world itself stands only inside the goals. No condition. -/
import Derived.WalkKit
import Derived.OrdersHeld
namespace Go.Proofs.Ytaaiimlaklpjpaa
open Go
set_option linter.unusedVariables false

/-! ## Environments -/
theorem Nat.beq_eq_false_iff_ne {a b : Nat} : Nat.beq a b = false ↔ a ≠ b := by
  constructor
  · intro h e; subst e; simp at h
  · intro h; cases hb : Nat.beq a b with
    | false => rfl
    | true => exact absurd (Nat.eq_of_beq_eq_true hb) h

abbrev Env := List (Nat × Value)

def look : Env → Nat → Option Value
  | [], _ => none
  | (j, v) :: t, i => bif Nat.beq j i then some v else look t i

structure Fits (N : Nat) (e : Env) (a : Act) : Prop where
  size : a.tmps.size = N
  defers : a.defers = []
  get : ∀ i v, look e i = some v → a.tmps[i]? = some v

def ev (e : Env) : Operand → Option Value
  | .tmp t => look e t
  | .const v => some v
  | .global g => some (.pointer (some ⟨g, 0, none⟩))
  | .func f => some (.func (.func f) #[] #[])

theorem Fits.eval {N : Nat} {e : Env} {a : Act} (h : Fits N e a) {x : Operand} {v : Value} (hv : ev e x = some v) : a.eval x = v := by
  cases x with
  | tmp t =>
    have := h.get t v hv
    simp [Act.eval, this]
  | const c => exact Option.some.inj hv
  | global g => exact Option.some.inj hv
  | func f => exact Option.some.inj hv

theorem Fits.put {N : Nat} {e : Env} {a : Act} (h : Fits N e a) {d : Nat} (hd : Nat.blt d N = true) (v : Value) : Fits N ((d, v) :: e) (a.put (some d) v) := by
  have hd' : d < N := by simpa [Nat.blt_eq] using hd
  refine ⟨by simp [Act.put, h.size], by simp [Act.put, h.defers], fun i u hu => ?_⟩
  simp only [look] at hu
  by_cases hji : d = i
  · subst hji
    simp at hu
    subst hu
    simp [Act.put, h.size, hd']
  · have : Nat.beq d i = false := Nat.beq_eq_false_iff_ne.2 hji
    simp only [this, cond_false] at hu
    simp only [Act.put]
    rw [Array.getElem?_setIfInBounds_ne hji]
    exact h.get i u hu

theorem Fits.put_none {N : Nat} {e : Env} {a : Act} (h : Fits N e a) (v : Value) : Fits N e (a.put none v) := h

/-- e2 says no more than e1. -/
def Sub (e2 e1 : Env) : Prop := ∀ i v, look e2 i = some v → look e1 i = some v
theorem Fits.sub {N : Nat} {e e2 : Env} {a : Act} (h : Fits N e a) (hs : Sub e2 e) : Fits N e2 a := ⟨h.size, h.defers, fun i v hv => h.get i v (hs i v hv)⟩
theorem Sub.nil (e : Env) : Sub [] e := fun i v h => by simp [look] at h
theorem Sub.cons {e2 e1 : Env} {i : Nat} {v : Value} (h : look e1 i = some v) (hs : Sub e2 e1) : Sub ((i, v) :: e2) e1 := by
  intro j u hu
  simp only [look] at hu
  by_cases hij : i = j
  · subst hij; simp at hu; subst hu; exact h
  · have : Nat.beq i j = false := Nat.beq_eq_false_iff_ne.2 hij
    simp only [this, cond_false] at hu
    exact hs j u hu

/-- The slots of a list, as they stand in e. -/
def keepK {α : Type} : List Nat → Env → (Env → Option α) → Option α
  | [], _, k => k []
  | i :: l, e, k => match look e i with
    | some v => keepK l e (fun r => k ((i, v) :: r))
    | none => none
theorem keepK_some {α : Type} : ∀ (l : List Nat) (e : Env) (k : Env → Option α) (x : α), keepK l e k = some x → ∃ r, k r = some x ∧ Sub r e := by
  intro l
  induction l with
  | nil => intro e k x h; exact ⟨[], h, Sub.nil e⟩
  | cons i l ih =>
    intro e k x h
    simp only [keepK] at h
    split at h
    · rename_i v hv
      obtain ⟨r, hr, hs⟩ := ih e _ x h
      exact ⟨(i, v) :: r, hr, Sub.cons hv hs⟩
    · cases h

/-! ## Memory -/
abbrev Mem := Nat → Option Obj

def rowV (ao : Option Nat) (n cap : Nat) : Value := .slice (ao.map fun g => ⟨g, 0, none⟩) n cap

inductive Own where
  | box (b : Nat) (cs : List Value) (t : TypeId)
  | row (ao : Option Nat) (cap : Nat) (e : TypeId) (size n : Nat) (xs : List Value)
  | any (b : Nat) (o : Obj)

def Own.blk : Own → Option Nat
  | .box b _ _ => some b
  | .row ao _ _ _ _ _ => ao
  | .any b _ => some b

def Own.holds (w : World) : Own → Prop
  | .box b cs t => w.heap[b]? = some (.cells cs.toArray t (0, 0))
  | .row ao cap e size n xs => w.ownsRow 0 e size (rowV ao n cap) n xs
  | .any b o => w.heap[b]? = some o

theorem rowV_block (ao : Option Nat) (n cap : Nat) : (rowV ao n cap).ownBlock = ao := by cases ao <;> rfl

theorem Own.holds_of_same {w w' : World} {o : Own} (h : o.holds w) (hs : ∀ b, o.blk = some b → w'.heap[b]? = w.heap[b]?) : o.holds w' := by
  cases o with
  | box b cs t => exact (hs b rfl).trans h
  | any b x => exact (hs b rfl).trans h
  | row ao cap e size n xs =>
    obtain ⟨h1, h2⟩ := h
    refine ⟨h1, ?_⟩
    rcases h2 with h2 | ⟨g, cap', cur, hv, hg, hh, r⟩
    · exact Or.inl h2
    · refine Or.inr ⟨g, cap', cur, hv, hg, ?_, r⟩
      rw [hs g ?_]
      · exact hh
      · cases ao with
        | none => simp [rowV] at hv
        | some g' => simp [rowV] at hv; simp [Own.blk, hv.1]

theorem Own.holds_lt {w : World} {o : Own} (h : o.holds w) {b : Nat} (hb : o.blk = some b) : b < w.heap.size := by
  cases o with
  | box b' cs t => simp [Own.blk] at hb; subst hb; exact (Array.getElem?_eq_some_iff.1 h).1
  | any b' x => simp [Own.blk] at hb; subst hb; exact (Array.getElem?_eq_some_iff.1 h).1
  | row ao cap e size n xs =>
    simp [Own.blk] at hb
    subst hb
    exact (World.ownsRow.lt h b (by simp [rowV_block])).2

/-- What may be read: the own blocks and the memory that does not turn. -/
structure Rd (S : List Own) (M : Mem) (w : World) : Prop where
  own : ∀ o ∈ S, o.holds w
  mem : ∀ b o, M b = some o → w.heap[b]? = some o

/-- The state of a call that began in w0, may turn the blocks X of old memory, and began with M0. -/
structure St (w0 : World) (X : List Nat) (M0 : Mem) (S : List Own) (M : Mem) (w : World) : Prop where
  os : w.os = w0.os
  tape : w.tape = w0.tape
  output : w.output = w0.output
  size : w0.heap.size ≤ w.heap.size
  frame : ∀ b, b < w0.heap.size → b ∉ X → w.heap[b]? = w0.heap[b]?
  rd : Rd S M w
  disj : S.Pairwise (fun o1 o2 => ∀ b, o1.blk = some b → o2.blk ≠ some b)
  sep : ∀ o ∈ S, ∀ b, o.blk = some b → M b = none
  new : ∀ o ∈ S, ∀ b, o.blk = some b → b ∈ X ∨ w0.heap.size ≤ b
  ext1 : ∀ b o, M0 b = some o → M b = some o
  ext2 : ∀ b o, M b = some o → M0 b = some o ∨ w0.heap.size ≤ b ∨ b ∈ X

def Mle (M M' : Mem) : Prop := ∀ b o, M b = some o → M' b = some o
theorem Mle.refl (M : Mem) : Mle M M := fun _ _ h => h
theorem Mle.trans {a b c : Mem} (h : Mle a b) (k : Mle b c) : Mle a c := fun x o hx => k x o (h x o hx)

theorem Rd.sub {S S2 : List Own} {M M2 : Mem} {w : World} (h : Rd S M w) (hs : ∀ o ∈ S2, o ∈ S) (hm : Mle M2 M) : Rd S2 M2 w :=
  ⟨fun o ho => h.own o (hs o ho), fun b o hb => h.mem b o (hm b o hb)⟩

/-- A part of the own blocks, in order: the others are let go. -/
theorem St.drop {w0 w : World} {X : List Nat} {M0 M : Mem} {S S2 : List Own} (h : St w0 X M0 S M w) (hs : S2.Sublist S) : St w0 X M0 S2 M w :=
  { h with
    rd := h.rd.sub (fun o ho => hs.subset ho) (Mle.refl _)
    disj := h.disj.sublist hs
    sep := fun o ho => h.sep o (hs.subset ho)
    new := fun o ho => h.new o (hs.subset ho) }

theorem St.perm {w0 w : World} {X : List Nat} {M0 M : Mem} {S S2 : List Own} (h : St w0 X M0 S M w) (hs : S2.Perm S) : St w0 X M0 S2 M w :=
  { h with
    rd := h.rd.sub (fun o ho => hs.subset ho) (Mle.refl _)
    disj := (hs.pairwise_iff (fun {x y} hxy b hb hc => hxy b hc hb)).2 h.disj
    sep := fun o ho => h.sep o (hs.subset ho)
    new := fun o ho => h.new o (hs.subset ho) }

/-- A draw turns nothing. -/
theorem St.drew {w0 w : World} {X : List Nat} {M0 M : Mem} {S : List Own} (h : St w0 X M0 S M w) : St w0 X M0 S M { w with drawn := w.drawn + 1 } :=
  { h with rd := ⟨fun o ho => Own.holds_of_same (h.rd.own o ho) (fun _ _ => rfl), h.rd.mem⟩ }

theorem St.start {w : World} {X : List Nat} {M : Mem} {S : List Own} (hS : ∀ o ∈ S, o.holds w) (hM : ∀ b o, M b = some o → w.heap[b]? = some o)
    (hd : S.Pairwise (fun o1 o2 => ∀ b, o1.blk = some b → o2.blk ≠ some b)) (hs : ∀ o ∈ S, ∀ b, o.blk = some b → M b = none) (hX : ∀ o ∈ S, ∀ b, o.blk = some b → b ∈ X) : St w X M S M w :=
  ⟨rfl, rfl, rfl, Nat.le_refl _, fun _ _ _ => rfl, ⟨hS, hM⟩, hd, hs, fun o ho b hb => .inl (hX o ho b hb), fun _ _ h => h, fun _ _ h => .inl h⟩

theorem St.mle {w0 w : World} {X : List Nat} {M0 M : Mem} {S : List Own} (h : St w0 X M0 S M w) : Mle M0 M := h.ext1

/-- A new block. -/
theorem St.alloc {w0 w : World} {X : List Nat} {M0 M : Mem} {S : List Own} (h : St w0 X M0 S M w) (x : Own) (ob : Obj) (hb : x.blk = some w.heap.size) (hx : x.holds (w.alloc ob)) :
    St w0 X M0 (x :: S) M (w.alloc ob) := by
  have hsame : ∀ b, b < w.heap.size → (w.alloc ob).heap[b]? = w.heap[b]? := fun b hb => heap_alloc_old w ob hb
  have hlt : ∀ b o, M b = some o → b < w.heap.size := fun b o hb => (Array.getElem?_eq_some_iff.1 (h.rd.mem b o hb)).1
  refine { os := h.os, tape := h.tape, output := h.output, size := Nat.le_trans h.size (by simp), frame := fun b hb hX => ?_, rd := ⟨fun o ho => ?_, fun b o hbo => ?_⟩, disj := ?_, sep := fun o ho b hbo => ?_, new := fun o ho b hbo => ?_, ext1 := h.ext1, ext2 := h.ext2 }
  · rw [hsame b (Nat.lt_of_lt_of_le hb h.size)]; exact h.frame b hb hX
  · rcases List.mem_cons.1 ho with rfl | ho
    · exact hx
    · exact Own.holds_of_same (h.rd.own o ho) fun b hb => hsame b (Own.holds_lt (h.rd.own o ho) hb)
  · rw [hsame b (hlt b o hbo)]; exact h.rd.mem b o hbo
  · refine List.pairwise_cons.2 ⟨fun o ho b hb1 hb2 => ?_, h.disj⟩
    have := Own.holds_lt (h.rd.own o ho) hb2
    rw [hb] at hb1
    cases hb1
    omega
  · rcases List.mem_cons.1 ho with rfl | ho
    · rw [hb] at hbo
      cases hbo
      cases hM : M w.heap.size with
      | none => rfl
      | some o => have := hlt _ o hM; omega
    · exact h.sep o ho b hbo
  · rcases List.mem_cons.1 ho with rfl | ho
    · rw [hb] at hbo
      cases hbo
      exact .inr h.size
    · exact h.new o ho b hbo

/-- The block of the first own entry is turned: a world in which all other blocks stand. -/
theorem St.turn {w0 w w' : World} {X : List Nat} {M0 M : Mem} {S : List Own} {x y : Own} {g : Nat} (h : St w0 X M0 (x :: S) M w) (hx : x.blk = some g) (hy : y.blk = some g) (hyh : y.holds w')
    (hos : w'.os = w.os) (htape : w'.tape = w.tape) (hout : w'.output = w.output) (hsize : w.heap.size ≤ w'.heap.size) (hblock : ∀ b, b < w.heap.size → b ≠ g → w'.heap[b]? = w.heap[b]?) : St w0 X M0 (y :: S) M w' := by
  have hxin : x ∈ x :: S := List.mem_cons_self
  have hsep := h.sep x hxin g hx
  have hnew := h.new x hxin g hx
  have hd := List.pairwise_cons.1 h.disj
  refine { os := hos.trans h.os, tape := htape.trans h.tape, output := hout.trans h.output, size := Nat.le_trans h.size hsize, frame := fun b hb hX => ?_, rd := ⟨fun o ho => ?_, fun b o hbo => ?_⟩, disj := ?_, sep := fun o ho b hbo => ?_, new := fun o ho b hbo => ?_, ext1 := h.ext1, ext2 := h.ext2 }
  · rw [hblock b (Nat.lt_of_lt_of_le hb h.size) ?_]
    · exact h.frame b hb hX
    · rintro rfl
      rcases hnew with hn | hn
      · exact hX hn
      · omega
  · rcases List.mem_cons.1 ho with rfl | ho
    · exact hyh
    · refine Own.holds_of_same (h.rd.own o (List.mem_cons_of_mem _ ho)) fun b hb => hblock b (Own.holds_lt (h.rd.own o (List.mem_cons_of_mem _ ho)) hb) ?_
      rintro rfl
      exact hd.1 o ho b hx hb
  · rw [hblock b (Array.getElem?_eq_some_iff.1 (h.rd.mem b o hbo)).1 ?_]
    · exact h.rd.mem b o hbo
    · rintro rfl
      rw [hsep] at hbo
      cases hbo
  · refine List.pairwise_cons.2 ⟨fun o ho b hb1 => ?_, hd.2⟩
    rw [hy] at hb1
    cases hb1
    exact hd.1 o ho g hx
  · rcases List.mem_cons.1 ho with rfl | ho
    · rw [hy] at hbo; cases hbo; exact hsep
    · exact h.sep o (List.mem_cons_of_mem _ ho) b hbo
  · rcases List.mem_cons.1 ho with rfl | ho
    · rw [hy] at hbo; cases hbo; exact hnew
    · exact h.new o (List.mem_cons_of_mem _ ho) b hbo

/-- The first own entry's block is left behind for a new one (an append that moved; a nil row that got a block). -/
theorem St.move {w0 w w' : World} {X : List Nat} {M0 M : Mem} {S : List Own} {x y : Own} (h : St w0 X M0 (x :: S) M w) {g : Nat} (hy : y.blk = some g) (hg : w.heap.size ≤ g) (hyh : y.holds w')
    (hos : w'.os = w.os) (htape : w'.tape = w.tape) (hout : w'.output = w.output) (hsize : w.heap.size ≤ w'.heap.size) (hblock : ∀ b, b < w.heap.size → x.blk ≠ some b → w'.heap[b]? = w.heap[b]?) : St w0 X M0 (y :: S) M w' := by
  have hxin : x ∈ x :: S := List.mem_cons_self
  have hd := List.pairwise_cons.1 h.disj
  have hlt : ∀ b o, M b = some o → b < w.heap.size := fun b o hb => (Array.getElem?_eq_some_iff.1 (h.rd.mem b o hb)).1
  refine { os := hos.trans h.os, tape := htape.trans h.tape, output := hout.trans h.output, size := Nat.le_trans h.size hsize, frame := fun b hb hX => ?_, rd := ⟨fun o ho => ?_, fun b o hbo => ?_⟩, disj := ?_, sep := fun o ho b hbo => ?_, new := fun o ho b hbo => ?_, ext1 := h.ext1, ext2 := h.ext2 }
  · rw [hblock b (Nat.lt_of_lt_of_le hb h.size) ?_]
    · exact h.frame b hb hX
    · intro hx
      rcases h.new x hxin b hx with hn | hn
      · exact hX hn
      · omega
  · rcases List.mem_cons.1 ho with rfl | ho
    · exact hyh
    · refine Own.holds_of_same (h.rd.own o (List.mem_cons_of_mem _ ho)) fun b hb => hblock b (Own.holds_lt (h.rd.own o (List.mem_cons_of_mem _ ho)) hb) ?_
      intro hx
      exact hd.1 o ho b hx hb
  · rw [hblock b (hlt b o hbo) ?_]
    · exact h.rd.mem b o hbo
    · intro hx
      rw [h.sep x hxin b hx] at hbo
      cases hbo
  · refine List.pairwise_cons.2 ⟨fun o ho b hb1 hb2 => ?_, hd.2⟩
    rw [hy] at hb1
    cases hb1
    have := Own.holds_lt (h.rd.own o (List.mem_cons_of_mem _ ho)) hb2
    omega
  · rcases List.mem_cons.1 ho with rfl | ho
    · rw [hy] at hbo; cases hbo
      cases hM : M g with
      | none => rfl
      | some o => have := hlt _ o hM; omega
    · exact h.sep o (List.mem_cons_of_mem _ ho) b hbo
  · rcases List.mem_cons.1 ho with rfl | ho
    · rw [hy] at hbo; cases hbo; exact .inr (Nat.le_trans h.size hg)
    · exact h.new o (List.mem_cons_of_mem _ ho) b hbo

/-- The first own entry is frozen: its block joins M. -/
theorem St.freeze {w0 w : World} {X : List Nat} {M0 M : Mem} {S : List Own} {x : Own} (h : St w0 X M0 (x :: S) M w) :
    ∃ M', Mle M M' ∧ (∀ b, x.blk = some b → M' b = w.heap[b]?) ∧ St w0 X M0 S M' w := by
  have hxin : x ∈ x :: S := List.mem_cons_self
  have hd := List.pairwise_cons.1 h.disj
  refine ⟨fun b => if x.blk = some b then w.heap[b]? else M b, fun b o hb => ?_, fun b hb => if_pos hb, ?_⟩
  · show (if x.blk = some b then w.heap[b]? else M b) = some o
    rw [if_neg]
    · exact hb
    · intro hx; rw [h.sep x hxin b hx] at hb; cases hb
  · refine { h with rd := ⟨fun o ho => h.rd.own o (List.mem_cons_of_mem _ ho), fun b o hb => ?_⟩, disj := hd.2, sep := fun o ho b hb => ?_, new := fun o ho => h.new o (List.mem_cons_of_mem _ ho), ext1 := fun b o hb => ?_, ext2 := fun b o hb => ?_ }
    · change (if x.blk = some b then w.heap[b]? else M b) = some o at hb
      split at hb
      · exact hb
      · exact h.rd.mem b o hb
    · show (if x.blk = some b then w.heap[b]? else M b) = none
      rw [if_neg (fun hx => hd.1 o ho b hx hb)]
      exact h.sep o (List.mem_cons_of_mem _ ho) b hb
    · have := h.ext1 b o hb
      show (if x.blk = some b then w.heap[b]? else M b) = some o
      rw [if_neg]
      · exact this
      · intro hx; rw [h.sep x hxin b hx] at this; cases this
    · change (if x.blk = some b then w.heap[b]? else M b) = some o at hb
      split at hb
      · rename_i hx
        rcases h.new x hxin b hx with hn | hn
        · exact .inr (.inr hn)
        · exact .inr (.inl hn)
      · exact h.ext2 b o hb

end Go.Proofs.Ytaaiimlaklpjpaa
