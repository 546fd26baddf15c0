/- The engine, sixth part: structs and slices that are built, make, nil rows, append as a step; regions that draw their order. No condition. -/
import Derived.Test.YtaaiimlaklpjpaaEngE
namespace Go.Proofs.Ytaaiimlaklpjpaa
open Go
set_option linter.unusedVariables false

/-! ### Structs, arrays and slices that are written out -/
def cellsL : Value → List Value
  | .agg cs => cs.toList
  | v => [v]
theorem cellsL_eq (v : Value) : v.cells = (cellsL v).toArray := by cases v <;> simp [Value.cells, cellsL]

def fillK {α : Type} (place : Nat → Option (Nat × Nat)) : List (Nat × Value) → List Value → (List Value → Option α) → Option α
  | [], cs, k => k cs
  | (i, v) :: r, cs, k => match place i with
    | some (off, size) => bif Nat.beq (cellsL v).length size && Nat.ble (off + size) cs.length then putsK off (cellsL v) cs (fun cs' => fillK place r cs' k) else none
    | none => none

theorem foldl_sets (off : Nat) : ∀ (l : List Value) (j : Nat) (cs : Array Value), (l.zipIdx j).foldl (fun cs (p : Value × Nat) => cs.setIfInBounds (off + p.2) p.1) cs = (setsL (off + j) l cs.toList).toArray
  | [], j, cs => by simp [setsL]
  | v :: l, j, cs => by
    simp only [List.zipIdx_cons, List.foldl_cons]
    rw [foldl_sets off l (j + 1)]
    simp [setsL, Nat.add_assoc]

theorem fillK_some {α : Type} {place : Nat → Option (Nat × Nat)} {x : α} : ∀ (ps : List (Nat × Value)) (cs : List Value) (k : List Value → Option α), fillK place ps cs k = some x → ∃ r, Instr.fill place cs.toArray ps = some r.toArray ∧ r.length = cs.length ∧ k r = some x
  | [], cs, k, h => ⟨cs, rfl, rfl, h⟩
  | (i, v) :: r, cs, k, h => by
    simp only [fillK] at h
    split at h
    · rename_i off size hp
      cases hb : Nat.beq (cellsL v).length size && Nat.ble (off + size) cs.length with
      | false => rw [hb] at h; cases h
      | true =>
        rw [hb] at h
        simp only [cond_true] at h
        simp only [Bool.and_eq_true] at hb
        have hsz : (cellsL v).length = size := Nat.eq_of_beq_eq_true hb.1
        have hle : off + size ≤ cs.length := Nat.le_of_ble_eq_true hb.2
        obtain ⟨h1, h2⟩ := putsK_some _ off cs _ h
        obtain ⟨q, h3, h4, h5⟩ := fillK_some r _ k h2
        refine ⟨q, ?_, by rw [h4, setsL_length], h5⟩
        have hc : v.cells.size = size := by rw [cellsL_eq]; simpa using hsz
        have hif : (v.cells.size ≠ size || off + v.cells.size > cs.toArray.size) = false := by simp [hc]; omega
        have hfold : (v.cells.zipIdx.foldl (fun cs (c, j) => cs.setIfInBounds (off + j) c) cs.toArray) = (setsL off (cellsL v) cs).toArray := by
          rw [cellsL_eq, ← Array.foldl_toList]
          simpa using foldl_sets off (cellsL v) 0 cs.toArray
        simp only [Instr.fill, hp, hif, Bool.false_eq_true, if_false, hfold]
        exact h3
    · cases h

def placeS (T : List (Nat × TD)) (fs : Array Field) (i : Nat) : Option (Nat × Nat) :=
  match fs[i]? with
  | some f => match tlook T f.type with
    | some d => some (f.offset, d.size)
    | none => none
  | none => none

def buildK (T : List (Nat × TD)) (t : Nat) (parts : List (Nat × Value)) : Option Value :=
  match tlook T t with
  | some ⟨.struct fs, _, _, z⟩ => bif fs.toList.all (fun f => (tlook T f.type).isSome) then fillK (placeS T fs) parts (cellsL z) (fun r => some (.agg r.toArray)) else none
  | some ⟨.array _ el, _, _, z⟩ => match tlook T el with
    | some d => fillK (fun i => some (i * d.size, d.size)) parts (cellsL z) (fun r => some (.agg r.toArray))
    | none => none
  | _ => none

def evParts {α : Type} : List (Nat × Operand) → Env → (List (Nat × Value) → Option α) → Option α
  | [], _, k => k []
  | (i, x) :: l, e, k => match ev e x with
    | some v => evParts l e (fun r => k ((i, v) :: r))
    | none => none
theorem evParts_some {α : Type} {N : Nat} {e : Env} {a : Act} (hf : Fits N e a) {x : α} : ∀ (l : List (Nat × Operand)) (k : List (Nat × Value) → Option α), evParts l e k = some x → k (l.map fun p => (p.1, a.eval p.2)) = some x
  | [], k, h => h
  | (i, o) :: l, k, h => by
    simp only [evParts] at h
    split at h
    · rename_i v hv
      have := evParts_some hf l _ h
      simpa [hf.eval hv] using this
    · cases h

section
variable {P : Program} [G : Prg P]
theorem run_places {fs : Array Field} (h : fs.toList.all (fun f => (tlook G.T f.type).isSome) = true) (w : World) :
    (fs.mapM (fun f => do pure (f.offset, ← sizeOf f.type)) : Sem (Array (Nat × Nat))).run P w = .ok (fs.map fun f => (f.offset, ((tlook G.T f.type).map (·.size)).getD 0)) w := by
  have key : ∀ (l : List Field), l.all (fun f => (tlook G.T f.type).isSome) = true → (l.mapM (fun f => do pure (f.offset, ← sizeOf f.type)) : Sem (List (Nat × Nat))).run P w = .ok (l.map fun f => (f.offset, ((tlook G.T f.type).map (·.size)).getD 0)) w := by
    intro l
    induction l with
    | nil => intro _; simp
    | cons f l ih =>
      intro hl
      simp only [List.all_cons, Bool.and_eq_true] at hl
      obtain ⟨d, hd⟩ := Option.isSome_iff_exists.1 hl.1
      have ih' := ih hl.2
      simp only [List.mapM_cons, Sem.run_bind, run_sizeOfT hd, Result.andThen_ok, Sem.run_pure, ih', List.map_cons, hd, Option.map_some, Option.getD_some]
  rw [Array.mapM_eq_mapM_toList, Sem.run_map, key _ h]
  simp only [Result.andThen_ok]
  congr 1
  apply Array.ext'
  simp

theorem Ev.build {o : Oper} {e : Env} {S : List Own} {M : Mem} {t : Nat} {parts : Array (Nat × Operand)} {v : Value} (ho : o.op = .build t parts) (h : evParts parts.toList e (fun ps => buildK G.T t ps) = some v) : Ev P o e S M v := by
  intro N a w hf hrd
  have h1 := evParts_some hf parts.toList _ h
  have hmap : (parts.map fun (p : Nat × Operand) => (p.1, a.eval p.2)).toList = parts.toList.map fun p => (p.1, a.eval p.2) := by simp
  unfold buildK at h1
  split at h1
  · rename_i fs sz by_ z hd
    cases hall : fs.toList.all (fun f => (tlook G.T f.type).isSome) with
    | false => rw [hall] at h1; cases h1
    | true =>
      rw [hall] at h1
      simp only [cond_true] at h1
      obtain ⟨r, h2, _, h3⟩ := fillK_some _ _ _ h1
      simp only [Option.some.injEq] at h3
      subst h3
      have hpl : (fun i => (fs.map fun f => (f.offset, ((tlook G.T f.type).map (·.size)).getD 0))[i]?) = placeS G.T fs := by
        funext i
        simp only [placeS, Array.getElem?_map]
        cases hfi : fs[i]? with
        | none => rfl
        | some f =>
          have hm : f ∈ fs.toList := by simpa using Array.mem_of_getElem? hfi
          obtain ⟨d, hd'⟩ := Option.isSome_iff_exists.1 (List.all_eq_true.1 hall f hm)
          simp [hd']
      have hz : z.cells = (cellsL z).toArray := cellsL_eq z
      simp only [execOp, ho, Instr.build, Sem.run_bind, run_zeroT hd, Result.andThen_ok, run_underlying (Prg.under hd), run_places hall, hz, hpl, hmap, h2, Sem.run_pure]
  · rename_i n el sz by_ z hd
    split at h1
    · rename_i d hel
      obtain ⟨r, h2, _, h3⟩ := fillK_some _ _ _ h1
      simp only [Option.some.injEq] at h3
      subst h3
      have hz : z.cells = (cellsL z).toArray := cellsL_eq z
      simp only [execOp, ho, Instr.build, Sem.run_bind, run_zeroT hd, Result.andThen_ok, run_underlying (Prg.under hd), run_sizeOfT hel, hz, hmap, h2, Sem.run_pure]
    · cases h1
  · cases h1
end

/-- The list of n cells, the zero value's cells over and over. -/
def zerosK {α : Type} (z : List Value) : Nat → Nat → (List Value → Option α) → Option α
  | 0, _, k => k []
  | n + 1, i, k => zerosK z n (i + 1) (fun r => k (z.toArray[i % z.toArray.size]! :: r))
theorem zerosK_some {α : Type} {z : List Value} {x : α} : ∀ (n i : Nat) (k : List Value → Option α), zerosK z n i k = some x → k ((List.range' i n).map fun j => z.toArray[j % z.toArray.size]!) = some x
  | 0, i, k, h => by simpa [zerosK] using h
  | n + 1, i, k, h => by
    have := zerosK_some n (i + 1) _ h
    simpa [List.range'_succ] using this

section
variable {P : Program} [G : Prg P] {fn : Func} {N : Nat} {Rf : Ending → World → Prop} {w0 : World} {X : List Nat} {M0 : Mem} {k : List It} {e : Env} {S : List Own} {M : Mem} {ops : Array Oper} {rest : List Oper} {o : Oper} {d : Nat}

theorem WL.bd {t : Nat} {parts : Array (Nat × Operand)} {v : Value} (hg : o.guard = none) (hd : o.dst = some d) (hN : Nat.blt d N = true) (ho : o.op = .build t parts) (hb : evParts parts.toList e (fun ps => buildK G.T t ps) = some v) (h : WL P fn N Rf w0 X M0 k ops rest ((d, v) :: e) S M) :
    WL P fn N Rf w0 X M0 k ops (o :: rest) e S M := WL.step hg hd hN (Ev.build ho hb) h

def buildSK (T : List (Nat × TD)) (el len : Nat) (parts : List (Nat × Value)) : Option Value :=
  match tlook T el with
  | some d => bif Nat.ble (len * d.size) 4096 && Nat.blt 0 d.size then zerosK (cellsL d.zero) (len * d.size) 0 (fun z => fillK (fun i => some (i * d.size, d.size)) parts z (fun r => some (.agg r.toArray))) else none
  | none => none

theorem OpW.buildSlice {t el len : Nat} {td de : TD} {parts : Array (Nat × Operand)} {cs : List Value} (ho : o.op = .buildSlice t len parts) (hd : o.dst = some d) (hN : Nat.blt d N = true) (ht : tlook G.T t = some td) (hdd : td.desc = .slice el) (he : tlook G.T el = some de)
    (h : evParts parts.toList e (fun ps => buildSK G.T el len ps) = some (.agg cs.toArray)) :
    OpW P N w0 X M0 o e S M (fun e' S' M' => ∃ g, e' = (d, rowV (some g) len len) :: e ∧ S' = .row (some g) len el de.size len cs :: S ∧ M' = M) := by
  intro a w K Q hf hs hK
  have h1 := evParts_some hf parts.toList _ h
  have hmap : (parts.map fun (p : Nat × Operand) => (p.1, a.eval p.2)).toList = parts.toList.map fun p => (p.1, a.eval p.2) := by simp
  have hut : P.underlying t = some (.slice el) := by rw [Prg.under ht, hdd]
  simp only [buildSK, he] at h1
  cases hle : Nat.ble (len * de.size) 4096 && Nat.blt 0 de.size with
  | false => rw [hle] at h1; cases h1
  | true =>
    rw [hle] at h1
    simp only [cond_true] at h1
    simp only [Bool.and_eq_true] at hle
    have hsmall : len * de.size ≤ 4096 := Nat.le_of_ble_eq_true hle.1
    have hpos : 0 < de.size := by simpa [Nat.blt_eq] using hle.2
    have h2 := zerosK_some _ _ _ h1
    obtain ⟨r, h3, h4, h5⟩ := fillK_some _ _ _ h2
    simp only [Option.some.injEq, Value.agg.injEq] at h5
    have hrc : r = cs := by
      have := congrArg Array.toList h5
      simpa using this
    subst hrc
    simp only [List.length_map, List.length_range'] at h4
    have hrun : (Instr.buildSlice t len (parts.map fun (p : Nat × Operand) => (p.1, a.eval p.2))).run P w = .ok (.slice (some ⟨w.heap.size, 0, none⟩) len len) (w.alloc (.cells r.toArray el)) := by
      have hbig : ¬ (len * de.size > 2 ^ 24) := by omega
      simp only [Instr.buildSlice, Sem.run_bind, run_underlying hut, Result.andThen_ok, run_sizeOfT he, if_neg hbig]
      have hz0 : len * de.size = 0 → (Array.range (len * de.size)).map (fun i => (#[] : Array Value)[i % (#[] : Array Value).size]!) = ((List.range' 0 (len * de.size)).map fun j => (cellsL de.zero).toArray[j % (cellsL de.zero).toArray.size]!).toArray := by
        intro h0
        rw [h0]; simp
      have hz1 : (Array.range (len * de.size)).map (fun i => (de.zero.cells)[i % (de.zero.cells).size]!) = ((List.range' 0 (len * de.size)).map fun j => (cellsL de.zero).toArray[j % (cellsL de.zero).toArray.size]!).toArray := by
        rw [cellsL_eq]
        apply Array.ext'
        simp [Array.toList_range, List.range_eq_range']
      by_cases h0 : len * de.size = 0
      · rw [if_pos h0]
        simp only [Sem.run_bind, Sem.run_pure, Result.andThen_ok, hz0 h0, hmap, h3, newRow, run_newObj]
        rfl
      · rw [if_neg h0]
        simp only [Sem.run_bind, run_zeroT he, Sem.run_pure, Result.andThen_ok, hz1, hmap, h3, newRow, run_newObj]
        rfl
    have hnew : (w.alloc (.cells r.toArray el)).heap[w.heap.size]? = some (.cells r.toArray el (0, 0)) := heap_alloc_new w _
    have hy : (Own.row (some w.heap.size) len el de.size len r).holds (w.alloc (.cells r.toArray el)) := by
      refine ⟨h4, .inr ⟨w.heap.size, len, r.toArray, rfl, Nat.zero_le _, hnew, Nat.le_refl _, ?_, by simpa using h4, ?_⟩⟩
      · have := Nat.le_mul_of_pos_right len hpos
        simp only [maxLen]
        omega
      · simp [← h4]
    have := hK _ _ _ (a.put o.dst (rowV (some w.heap.size) len len)) _ ⟨w.heap.size, rfl, rfl, rfl⟩ (by rw [hd]; exact hf.put hN _) (hs.alloc _ _ rfl hy)
    unfold Oper.wp
    simp only [execOp, ho, Sem.run_bind, hrun, Result.andThen_ok, Sem.run_pure, Oper.upon]
    exact this

/-- A slice that is written out: a row of one's own. -/
theorem WL.bs {t el len : Nat} {td de : TD} {parts : Array (Nat × Operand)} {cs : List Value} (hg : o.guard = none) (hd : o.dst = some d) (hN : Nat.blt d N = true) (ho : o.op = .buildSlice t len parts) (ht : tlook G.T t = some td) (hdd : td.desc = .slice el) (he : tlook G.T el = some de)
    (hb : evParts parts.toList e (fun ps => buildSK G.T el len ps) = some (.agg cs.toArray)) (h : ∀ g, WL P fn N Rf w0 X M0 k ops rest ((d, rowV (some g) len len) :: e) (.row (some g) len el de.size len cs :: S) M) : WL P fn N Rf w0 X M0 k ops (o :: rest) e S M :=
  WL.op hg (OpW.buildSlice ho hd hN ht hdd he hb) (by rintro _ _ _ ⟨g, rfl, rfl, rfl⟩; exact h g)

/-- append to a row of one's own. -/
theorem WL.app {s x : Operand} {t el : Nat} {td de : TD} {ao : Option Nat} {cap n m cx : Nat} {xs news : List Value} {ax : Option Addr} {S' : List Own} (hg : o.guard = none) (hd : o.dst = some d) (hN : Nat.blt d N = true) (ho : o.op = .call { callee := .builtin .append, args := #[s, x], argTypes := #[t, t] })
    (ht : tlook G.T t = some td) (hdd : td.desc = .slice el) (he : tlook G.T el = some de) (hs : ev e s = some (rowV ao n cap)) (hx : ev e x = some (.slice ax m cx)) (hz : de.zero.cells.size = de.size)
    (hu : Pull S (.row ao cap el de.size n xs) S') (hax : ax = none → m = 0) (hsrc : Src S M ax news) (hl : news.length = m * de.size) (h1 : ∀ u ∈ news, u.oneCell' = true) (h63 : n + m ≤ 9223372036854775807) (hbytes : (n + m) * de.bytes ≤ 140737488355328)
    (h : ∀ ao' cap', (ao' = none ↔ ao = none ∧ m = 0) → WL P fn N Rf w0 X M0 k ops rest ((d, rowV ao' (n + m) cap') :: e) (.row ao' cap' el de.size (n + m) (xs ++ news) :: S') M) : WL P fn N Rf w0 X M0 k ops (o :: rest) e S M :=
  WL.op hg (OpW.append ho hd hN ht hdd he hs hx hz hu hax hsrc hl h1 h63 hbytes) (by rintro _ _ _ ⟨ao', cap', rfl, rfl, rfl, hn⟩; exact h ao' cap' hn)

/-- make([]T, n): n zero elements of one's own. -/
theorem OpW.make {t el : Nat} {td de : TD} {l c : Operand} {kl kc : IntKind} {n : Nat} (ho : o.op = .makeSlice t l c) (hd : o.dst = some d) (hN : Nat.blt d N = true) (ht : tlook G.T t = some td) (hdd : td.desc = .slice el) (he : tlook G.T el = some de)
    (hl : ev e l = some (.int kl (n : Int))) (hc : ev e c = some (.int kc (n : Int))) (hb : de.bytes * n ≤ 281474976710656) (h63 : n ≤ 9223372036854775807) :
    OpW P N w0 X M0 o e S M (fun e' S' M' => ∃ g, e' = (d, rowV (some g) n n) :: e ∧ S' = .row (some g) n el de.size n (madeCells de.zero.cells (n * de.size)).toList :: S ∧ M' = M) := by
  intro a w K Q hf hs hK
  obtain ⟨i, hi, his, hib, hiz⟩ := Prg.info he
  have hut : P.underlying t = some (.slice el) := by rw [Prg.under ht, hdd]
  obtain ⟨w', hrun, hown, hgr⟩ := run_make_full (P := P) w w.heap.size t el i de.zero de.size hut hi hiz his kl kc n (by rw [hib]; exact hb) (by simp only [maxLen]; omega) (Nat.le_refl _)
  have hy : (Own.row (some w.heap.size) n el de.size n (madeCells de.zero.cells (n * de.size)).toList).holds w' := by
    obtain ⟨h1, h2⟩ := hown
    refine ⟨h1, ?_⟩
    rcases h2 with ⟨h2, _⟩ | ⟨g, cap, cur, hv, _, hh, r⟩
    · cases h2
    · exact .inr ⟨g, cap, cur, hv, Nat.zero_le _, hh, r⟩
  have hst : St w0 X M0 (.row (some w.heap.size) n el de.size n (madeCells de.zero.cells (n * de.size)).toList :: S) M w' := by
    have h0 : St w0 X M0 (.row none 0 el de.size 0 [] :: S) M w := by
      refine { hs with rd := ⟨fun o ho => ?_, hs.rd.mem⟩, disj := List.pairwise_cons.2 ⟨(fun o ho b hb => by cases hb), hs.disj⟩, sep := fun o ho b hb => ?_, new := fun o ho b hb => ?_ }
      · rcases List.mem_cons.1 ho with rfl | ho
        · exact World.ownsRow_nil w 0 el de.size
        · exact hs.rd.own o ho
      · rcases List.mem_cons.1 ho with rfl | ho
        · cases hb
        · exact hs.sep o ho b hb
      · rcases List.mem_cons.1 ho with rfl | ho
        · cases hb
        · exact hs.new o ho b hb
    exact h0.move (g := w.heap.size) rfl (Nat.le_refl _) hy hgr.os hgr.tape hgr.output hgr.size (fun b hb _ => hgr.block b hb (by simp))
  have := hK _ _ _ (a.put o.dst (rowV (some w.heap.size) n n)) w' ⟨w.heap.size, rfl, rfl, rfl⟩ (by rw [hd]; exact hf.put hN _) hst
  unfold Oper.wp
  simp only [execOp, ho, hf.eval hl, hf.eval hc, Sem.run_bind, hrun, Result.andThen_ok, Sem.run_pure, Oper.upon]
  exact this
theorem WL.mk {t el : Nat} {td de : TD} {l c : Operand} {kl kc : IntKind} {n : Nat} (hg : o.guard = none) (hd : o.dst = some d) (hN : Nat.blt d N = true) (ho : o.op = .makeSlice t l c) (ht : tlook G.T t = some td) (hdd : td.desc = .slice el) (he : tlook G.T el = some de)
    (hl : ev e l = some (.int kl (n : Int))) (hc : ev e c = some (.int kc (n : Int))) (hb : de.bytes * n ≤ 281474976710656) (h63 : n ≤ 9223372036854775807)
    (h : ∀ g, WL P fn N Rf w0 X M0 k ops rest ((d, rowV (some g) n n) :: e) (.row (some g) n el de.size n (madeCells de.zero.cells (n * de.size)).toList :: S) M) : WL P fn N Rf w0 X M0 k ops (o :: rest) e S M :=
  WL.op hg (OpW.make ho hd hN ht hdd he hl hc hb h63) (by rintro _ _ _ ⟨g, rfl, rfl, rfl⟩; exact h g)

omit G in
/-- A nil slice is a row of one's own that is empty. -/
theorem R.nilrow (i el size : Nat) (h0 : look e i = some (.slice none 0 0)) (h : R P fn N Rf w0 X M0 k ((i, rowV none 0 0) :: e) (.row none 0 el size 0 [] :: S) M) : R P fn N Rf w0 X M0 k e S M := by
  refine R.same i (rowV none 0 0) h0 rfl ?_
  intro a w hf hs
  refine h a w hf { hs with rd := ⟨fun o ho => ?_, hs.rd.mem⟩, disj := List.pairwise_cons.2 ⟨(fun o ho b hb => by cases hb), hs.disj⟩, sep := fun o ho b hb => ?_, new := fun o ho b hb => ?_ }
  · rcases List.mem_cons.1 ho with rfl | ho
    · exact World.ownsRow_nil w 0 el size
    · exact hs.rd.own o ho
  · rcases List.mem_cons.1 ho with rfl | ho
    · cases hb
    · exact hs.sep o ho b hb
  · rcases List.mem_cons.1 ho with rfl | ho
    · cases hb
    · exact hs.new o ho b hb

/-- A slice over memory that does not turn: its cells, as long as it is. -/
def SlM (M : Mem) (ao : Option Addr) (n cap : Nat) (xs : List Value) : Prop :=
  n ≤ cap ∧ (ao = none → n = 0 ∧ cap = 0) ∧ ∀ a, ao = some a → (0 < cap ∨ xs ≠ []) → a.spot = none ∧ Cells M a.block a.off xs
omit G in
theorem SlM.mle {M M' : Mem} (hm : Mle M M') {ao : Option Addr} {n cap : Nat} {xs : List Value} (h : SlM M ao n cap xs) : SlM M' ao n cap xs :=
  ⟨h.1, h.2.1, fun a ha hx => ⟨(h.2.2 a ha hx).1, (h.2.2 a ha hx).2.mle hm⟩⟩
omit G in
theorem Src.ofSl {ao : Option Addr} {n cap : Nat} {xs : List Value} (h : SlM M ao n cap xs) : Src S M ao xs := by
  intro w hr a ha j u hj
  obtain ⟨h1, h2⟩ := h.2.2 a ha (.inr (by rintro rfl; simp at hj))
  obtain ⟨b, off, spot⟩ := a
  simp only at h1
  subst h1
  rw [Addr.add_lit]
  exact hr.cell (h2 j u hj)

omit G in
/-- A row of one's own does not turn any more. -/
theorem R.freezeRow {ao : Option Nat} {cap el size n : Nat} {xs : List Value} {S' : List Own} (hu : Pull S (.row ao cap el size n xs) S') (h : ∀ M', Mle M M' → SlM M' (ao.map fun g => ⟨g, 0, none⟩) n cap xs → R P fn N Rf w0 X M0 k e S' M') : R P fn N Rf w0 X M0 k e S M := by
  intro a w hf hs
  have hs' := hs.perm hu.perm
  obtain ⟨M', hm, hb, hst⟩ := hs'.freeze
  have hrow : w.ownsRow 0 el size (rowV ao n cap) n xs := hs'.rd.own _ List.mem_cons_self
  refine h M' hm ?_ a w hf hst
  rcases hrow.2 with ⟨h0, rfl⟩ | ⟨g, cap', cur, hv, _, hh, hnc, _, hcs, htake⟩
  · cases ao with
    | some g => simp [rowV] at h0
    | none =>
      simp [rowV] at h0
      subst h0
      exact ⟨Nat.le_refl _, fun _ => ⟨rfl, rfl⟩, (fun a ha _ => by cases ha)⟩
  · cases ao with
    | none => simp [rowV] at hv
    | some g' =>
      simp [rowV] at hv
      obtain ⟨rfl, rfl⟩ := hv
      refine ⟨hnc, (fun h => by cases h), fun a ha _ => ?_⟩
      cases ha
      refine ⟨rfl, fun i v hi => ?_⟩
      have := hb g' rfl
      simp only [cellM, this, hh, Nat.zero_add]
      rw [← htake, List.getElem?_take] at hi
      split at hi
      · simpa using hi
      · cases hi
omit G in
theorem R.freezeBox {b tb : Nat} {cs : List Value} {S' : List Own} (hu : Pull S (.box b cs tb) S') (h : ∀ M', Mle M M' → Cells M' b 0 cs → R P fn N Rf w0 X M0 k e S' M') : R P fn N Rf w0 X M0 k e S M := by
  intro a w hf hs
  have hs' := hs.perm hu.perm
  obtain ⟨M', hm, hb, hst⟩ := hs'.freeze
  have hrow : w.heap[b]? = some (.cells cs.toArray tb (0, 0)) := hs'.rd.own _ List.mem_cons_self
  refine h M' hm ?_ a w hf hst
  intro i v hi
  have := hb b rfl
  simp only [cellM, this, hrow, Nat.zero_add]
  simpa using hi

/-! ### Regions that draw their order -/
def RD (P : Program) (fn : Func) (N : Nat) (Rf : Ending → World → Prop) (w0 : World) (X : List Nat) (M0 : Mem) (k : List It) (ops : Array Oper) (F : List Own) (Mf : Mem) (fuel : Nat) (listed : Array Bool) (e : Env) (S : List Own) (M : Mem) : Prop :=
  ∀ a w, Fits N e a → St w0 X M0 S M w → Rd F Mf w → wpAnyH P .any ops (wpT P fn Rf k) (Rd F Mf) fuel listed a w

variable {F : List Own} {Mf : Mem} {fuel : Nat} {listed : Array Bool}

theorem R.draw {id : Nat} (F : List Own) (hF : F.Sublist S) (h : RD P fn N Rf w0 X M0 k ops F M ops.size (Array.replicate ops.size false) e S M) : R P fn N Rf w0 X M0 (.c (.region id ops true) :: k) e S M := by
  intro a w hf hs
  refine wp_region_held (S := Rd F M) G.wide (h a _ hf hs.drew ?_)
  exact hs.drew.rd.sub (fun o ho => hF.subset ho) (Mle.refl _)

omit G in
theorem wpT_panic (k : List It) (c : List PanicEntry) (a : Act) (w : World) : wpT P fn Rf k (.panic c) a w = bodyPost P fn Rf (.panic c) a w := by
  induction k with
  | nil => rfl
  | cons x k ih => cases x <;> simpa [wpT] using ih
omit G in
theorem panic_put (k : List It) (dst : Option Tmp) (v : Value) (c : List PanicEntry) (a : Act) (w : World) (h : wpT P fn Rf k (.panic c) (a.put dst v) w) : wpT P fn Rf k (.panic c) a w := by
  rw [wpT_panic] at h ⊢
  cases dst <;> exact h

omit G in
/-- Number i first: it yields its value wherever F and Mf are met. -/
theorem RD.take (i : Nat) {v : Value} {oi : Oper} (hi : ops[i]? = some oi) (h1 : Region.noSelect ops = true) (h2 : Region.free .any ops listed i = true) (h3 : (Region.ready .any ops listed).contains i = true) (hg : oi.guard = none) (hd : oi.dst = some d) (hN : Nat.blt d N = true) (hv : Ev P oi e F Mf v)
    (h : RD P fn N Rf w0 X M0 k ops F Mf fuel (listed.setIfInBounds i true) ((d, v) :: e) S M) : RD P fn N Rf w0 X M0 k ops F Mf (fuel + 1) listed e S M := by
  intro a w hf hs hr
  refine wpAnyH_take hi h1 h2 h3 (fun c a w hq => panic_put k _ _ c a w hq) (.inl ⟨by simp [Region.wanted, hg], fun w' hw' => hv N a w' hf hw'⟩) hr ?_
  have := h _ w (hf.put hN v) hs hr
  rw [hd]
  exact this
omit G in
/-- Its guard says yes. -/
theorem RD.takeY (i : Nat) {v : Value} {j dj : Nat} {want : Bool} {oi oj : Oper} (hi : ops[i]? = some oi) (h1 : Region.noSelect ops = true) (h2 : Region.free .any ops listed i = true) (h3 : (Region.ready .any ops listed).contains i = true) (hg : oi.guard = some (j, want)) (hj : ops[j]? = some oj) (hdj : oj.dst = some dj) (hw : look e dj = some (.bool want)) (hd : oi.dst = some d) (hN : Nat.blt d N = true) (hv : Ev P oi e F Mf v)
    (h : RD P fn N Rf w0 X M0 k ops F Mf fuel (listed.setIfInBounds i true) ((d, v) :: e) S M) : RD P fn N Rf w0 X M0 k ops F Mf (fuel + 1) listed e S M := by
  intro a w hf hs hr
  refine wpAnyH_take hi h1 h2 h3 (fun c a w hq => panic_put k _ _ c a w hq) (.inl ⟨by simp [Region.wanted, hg, yielded, hj, hdj, hf.get dj _ hw], fun w' hw' => hv N a w' hf hw'⟩) hr ?_
  have := h _ w (hf.put hN v) hs hr
  rw [hd]
  exact this
omit G in
/-- Its guard says no. -/
theorem RD.takeN (i : Nat) {v : Value} {j dj : Nat} {want : Bool} {oi oj : Oper} (hi : ops[i]? = some oi) (h1 : Region.noSelect ops = true) (h2 : Region.free .any ops listed i = true) (h3 : (Region.ready .any ops listed).contains i = true) (hg : oi.guard = some (j, want)) (hj : ops[j]? = some oj) (hdj : oj.dst = some dj) (hw : look e dj = some v) (hne : (match v with | .bool b => b == want | _ => false) = false) (hd : oi.dst = some d) (hN : Nat.blt d N = true)
    (h : RD P fn N Rf w0 X M0 k ops F Mf fuel (listed.setIfInBounds i true) ((d, undef) :: e) S M) : RD P fn N Rf w0 X M0 k ops F Mf (fuel + 1) listed e S M := by
  intro a w hf hs hr
  have hw : Region.wanted oi (yielded ops a.tmps) = false := by
    simp only [Region.wanted, hg, yielded, hj, hdj, Option.bind_some, hf.get dj _ hw]
    split
    · rename_i b hb
      simp only [Option.some.injEq] at hb
      subst hb
      simp only at hne
      simpa using hne
    · rfl
  refine wpAnyH_take hi h1 h2 h3 (fun c a w hq => panic_put k _ _ c a w hq) (.inr ⟨hw, rfl⟩) hr ?_
  have := h _ w (hf.put hN undef) hs hr
  rw [hd]
  exact this
omit G in
/-- Number i is the only one that may come up now; it yields a value as the state stands. -/
theorem RD.one (i : Nat) {v : Value} {oi : Oper} (hi : ops[i]? = some oi) (h3 : Region.ready .any ops listed = [i]) (hg : oi.guard = none) (hd : oi.dst = some d) (hN : Nat.blt d N = true) (hv : Ev P oi e S M v)
    (h : RD P fn N Rf w0 X M0 k ops F Mf fuel (listed.setIfInBounds i true) ((d, v) :: e) S M) : RD P fn N Rf w0 X M0 k ops F Mf (fuel + 1) listed e S M := by
  intro a w hf hs hr
  refine wpAnyH_all h3 (by simp) fun j hj => ?_
  obtain rfl : j = i := by simpa using hj
  unfold wpOp
  have hw : Region.wanted oi (yielded ops a.tmps) = true := by simp [Region.wanted, hg]
  simp only [hi, hw, if_true]
  refine .inl ?_
  unfold Oper.wp
  rw [hv N a w hf hs.rd, Oper.upon_value, hd]
  exact ⟨hr, h _ w (hf.put hN v) hs hr⟩
omit G in
/-- Number i is the only one that may come up now; it turns the state. -/
theorem RD.op (i : Nat) {post : Env → List Own → Mem → Prop} {oi : Oper} (hi : ops[i]? = some oi) (h3 : Region.ready .any ops listed = [i]) (hg : oi.guard = none) (ho : OpW P N w0 X M0 oi e S M post)
    (h : ∀ e' S' M', post e' S' M' → F.Sublist S' ∧ Mle Mf M' ∧ RD P fn N Rf w0 X M0 k ops F Mf fuel (listed.setIfInBounds i true) e' S' M') : RD P fn N Rf w0 X M0 k ops F Mf (fuel + 1) listed e S M := by
  intro a w hf hs hr
  refine wpAnyH_all h3 (by simp) fun j hj => ?_
  obtain rfl : j = i := by simpa using hj
  unfold wpOp
  have hw : Region.wanted oi (yielded ops a.tmps) = true := by simp [Region.wanted, hg]
  simp only [hi, hw, if_true]
  refine .inl (ho a w _ _ hf hs fun e' S' M' a' w' hp hf' hs' => ?_)
  obtain ⟨hF, hM, hrd⟩ := h e' S' M' hp
  have hr' : Rd F Mf w' := hs'.rd.sub (fun o ho => hF.subset ho) hM
  exact ⟨hr', hrd a' w' hf' hs' hr'⟩
omit G in
/-- All have come up. -/
theorem RD.done (h3 : Region.ready .any ops listed = []) (h : R P fn N Rf w0 X M0 k e S M) : RD P fn N Rf w0 X M0 k ops F Mf fuel listed e S M :=
  fun a w hf hs hr => wpAnyH_done h3 (h a w hf hs) fuel
omit G in
/-- Fewer own blocks, less memory are to be kept from here on. -/
theorem RD.same (i : Nat) {v : Value} (v' : Value) (h0 : look e i = some v) (hv : v = v') (h : RD P fn N Rf w0 X M0 k ops F Mf fuel listed ((i, v') :: e) S M) : RD P fn N Rf w0 X M0 k ops F Mf fuel listed e S M := by
  subst hv
  intro a w hf hs hr
  refine h a w (hf.sub fun j u hu => ?_) hs hr
  simp only [look] at hu
  by_cases hij : i = j
  · subst hij; simp at hu; subst hu; exact h0
  · rw [Nat.beq_eq_false_iff_ne.2 hij] at hu; exact hu
end

attribute [irreducible] RD

end Go.Proofs.Ytaaiimlaklpjpaa
