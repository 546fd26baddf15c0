/- The engine, fourth part: steps of a region; operations that turn the state; contracts of functions; returns. No condition. -/
import Derived.Test.YtaaiimlaklpjpaaEngC
namespace Go.Proofs.Ytaaiimlaklpjpaa
open Go
set_option linter.unusedVariables false

/-- An operation that turns the state: whatever holds behind it. -/
def OpW (P : Program) (N : Nat) (w0 : World) (X : List Nat) (M0 : Mem) (o : Oper) (e : Env) (S : List Own) (M : Mem) (post : Env → List Own → Mem → Prop) : Prop :=
  ∀ a w (K : Act → World → Prop) (Q : Exit → Act → World → Prop), Fits N e a → St w0 X M0 S M w →
    (∀ e' S' M' a' w', post e' S' M' → Fits N e' a' → St w0 X M0 S' M' w' → K a' w') → o.wp P a w K Q

section
variable {P : Program} {fn : Func} {N : Nat} {Rf : Ending → World → Prop} {w0 : World} {X : List Nat} {M0 : Mem} {k : List It} {e : Env} {S : List Own} {M : Mem} {ops : Array Oper} {rest : List Oper} {o : Oper}

theorem WL.step {d : Nat} {v : Value} (hg : o.guard = none) (hd : o.dst = some d) (hN : Nat.blt d N = true) (hv : Ev P o e S M v) (h : WL P fn N Rf w0 X M0 k ops rest ((d, v) :: e) S M) : WL P fn N Rf w0 X M0 k ops (o :: rest) e S M := by
  intro a w hf hs
  refine wpList_plain hg fun K hK => ?_
  unfold Oper.wp
  rw [hv N a w hf hs.rd]
  have := h _ w (hf.put hN v) hs
  rw [← hd] at this
  exact hK _ _ this

theorem WL.op {post : Env → List Own → Mem → Prop} (hg : o.guard = none) (h : OpW P N w0 X M0 o e S M post) (hn : ∀ e' S' M', post e' S' M' → WL P fn N Rf w0 X M0 k ops rest e' S' M') : WL P fn N Rf w0 X M0 k ops (o :: rest) e S M := by
  intro a w hf hs
  refine wpList_plain hg fun K hK => ?_
  exact h a w K _ hf hs fun e' S' M' a' w' hp hf' hs' => hK _ _ (hn e' S' M' hp a' w' hf' hs')

/-- A guard that says yes. -/
theorem WL.yes {j dj : Nat} {want : Bool} {oj : Oper} (hg : o.guard = some (j, want)) (hj : ops[j]? = some oj) (hdj : oj.dst = some dj) (hv : look e dj = some (.bool want)) (h : WL P fn N Rf w0 X M0 k ops ({ o with guard := none } :: rest) e S M) :
    WL P fn N Rf w0 X M0 k ops (o :: rest) e S M := by
  intro a w hf hs
  have h1 := h a w hf hs
  have hy : yielded ops a.tmps j = some want := by simp [yielded, hj, hdj, hf.get dj _ hv]
  have hw : Region.wanted o (yielded ops a.tmps) = true := by simp [Region.wanted, hg, hy]
  have hw' : Region.wanted { o with guard := none } (yielded ops a.tmps) = true := rfl
  simp only [wpList, hw', if_true] at h1
  simp only [wpList, hw, if_true]
  exact h1
/-- A guard that says no. -/
theorem WL.no {j dj d : Nat} {want : Bool} {v : Value} {oj : Oper} (hg : o.guard = some (j, want)) (hj : ops[j]? = some oj) (hdj : oj.dst = some dj) (hv : look e dj = some v) (hne : (match v with | .bool b => b == want | _ => false) = false) (hd : o.dst = some d) (hN : Nat.blt d N = true)
    (h : WL P fn N Rf w0 X M0 k ops rest ((d, undef) :: e) S M) : WL P fn N Rf w0 X M0 k ops (o :: rest) e S M := by
  intro a w hf hs
  have h1 := h _ w (hf.put hN undef) hs
  have hw : Region.wanted o (yielded ops a.tmps) = false := by
    simp only [Region.wanted, hg, yielded, hj, hdj, Option.bind_some, hf.get dj _ hv]
    split
    · rename_i b hb
      simp only [Option.some.injEq] at hb
      subst hb
      simp only at hne
      simpa using hne
    · rfl
  rw [← hd] at h1
  simp only [wpList, hw]
  exact h1

/-! ### New blocks -/
theorem zero_cells_size {t : Nat} {d : TD} {i : TypeInfo} (z : Value) : True := trivial

theorem OpW.alloc [G : Prg P] {t d : Nat} {td : TD} {cs : List Value} (ho : o.op = .alloc t) (hd : o.dst = some d) (hN : Nat.blt d N = true) (ht : tlook G.T t = some td) (hz : td.zero.cells = cs.toArray) :
    OpW P N w0 X M0 o e S M (fun e' S' M' => ∃ b, e' = (d, .pointer (some ⟨b, 0, none⟩)) :: e ∧ S' = .box b cs t :: S ∧ M' = M) := by
  intro a w K Q hf hs hK
  have hnew : (w.alloc (.cells cs.toArray t)).heap[w.heap.size]? = some (.cells cs.toArray t) := heap_alloc_new w _
  have := hK _ _ _ (a.put o.dst (.pointer (some ⟨w.heap.size, 0, none⟩))) (w.alloc (.cells cs.toArray t)) ⟨w.heap.size, rfl, rfl, rfl⟩ (by rw [hd]; exact hf.put hN _) (hs.alloc (.box w.heap.size cs t) _ rfl hnew)
  unfold Oper.wp
  simp only [execOp, ho, Instr.alloc, Sem.run_bind, run_zeroT ht, Result.andThen_ok, newVar, newRow, run_newObj, hz, Sem.run_pure]
  exact this

theorem OpW.box {t d : Nat} {x : Operand} {v : Value} {cs : List Value} (ho : o.op = .box t x) (hd : o.dst = some d) (hN : Nat.blt d N = true) (hx : ev e x = some v) (hz : v.cells = cs.toArray) :
    OpW P N w0 X M0 o e S M (fun e' S' M' => ∃ b, e' = (d, .pointer (some ⟨b, 0, none⟩)) :: e ∧ S' = .box b cs t :: S ∧ M' = M) := by
  intro a w K Q hf hs hK
  have hnew : (w.alloc (.cells cs.toArray t)).heap[w.heap.size]? = some (.cells cs.toArray t) := heap_alloc_new w _
  have := hK _ _ _ (a.put o.dst (.pointer (some ⟨w.heap.size, 0, none⟩))) (w.alloc (.cells cs.toArray t)) ⟨w.heap.size, rfl, rfl, rfl⟩ (by rw [hd]; exact hf.put hN _) (hs.alloc (.box w.heap.size cs t) _ rfl hnew)
  unfold Oper.wp
  simp only [execOp, ho, Instr.box, Sem.run_bind, Result.andThen_ok, newVar, newRow, run_newObj, hf.eval hx, hz, Sem.run_pure]
  exact this

/-! ### Stores -/
/-- S' is S with the entry x turned into y. -/
inductive Upd : List Own → Own → Own → List Own → Prop
  | here {x y : Own} {S : List Own} : Upd (x :: S) x y (y :: S)
  | there {x y z : Own} {S S' : List Own} : Upd S x y S' → Upd (z :: S) x y (z :: S')

theorem Upd.perm {S S' : List Own} {x y : Own} (h : Upd S x y S') : ∃ T, (x :: T).Perm S ∧ S'.Perm (y :: T) := by
  induction h with
  | here => exact ⟨_, List.Perm.refl _, List.Perm.refl _⟩
  | there _ ih =>
    obtain ⟨T, h1, h2⟩ := ih
    exact ⟨_ :: T, (List.Perm.swap _ _ _).trans (h1.cons _), (h2.cons _).trans (List.Perm.swap _ _ _)⟩

theorem Upd.mem {S S' : List Own} {x y : Own} (h : Upd S x y S') : x ∈ S := by
  induction h with
  | here => exact List.mem_cons_self
  | there _ ih => exact List.mem_cons_of_mem _ ih

theorem St.upd {w w' : World} {S' : List Own} {x y : Own} {g : Nat} (h : St w0 X M0 S M w) (hu : Upd S x y S') (hx : x.blk = some g) (hy : y.blk = some g) (hyh : y.holds w')
    (hos : w'.os = w.os) (htape : w'.tape = w.tape) (hout : w'.output = w.output) (hsize : w.heap.size ≤ w'.heap.size) (hblock : ∀ b, b < w.heap.size → b ≠ g → w'.heap[b]? = w.heap[b]?) : St w0 X M0 S' M w' := by
  obtain ⟨T, h1, h2⟩ := hu.perm
  exact ((h.perm h1).turn hx hy hyh hos htape hout hsize hblock).perm h2

theorem setsL_eq : ∀ (us : List Value) (off : Nat) (cur : List Value), off + us.length ≤ cur.length → setsL off us cur = cur.take off ++ us ++ cur.drop (off + us.length)
  | [], off, cur, _ => by simp [setsL]
  | u :: us, off, cur, h => by
    simp only [List.length_cons] at h
    simp only [setsL]
    rw [setsL_eq us (off + 1) (cur.set off u) (by simp; omega)]
    have h1 : (cur.set off u).take (off + 1) = cur.take off ++ [u] := by
      rw [List.take_add_one, List.take_set_of_le (Nat.le_refl _)]
      simp [show off < cur.length by omega]
    have h2 : (cur.set off u).drop (off + 1 + us.length) = cur.drop (off + (u :: us).length) := by
      rw [List.drop_set_of_lt (by omega)]
      congr 1
      simp; omega
    rw [h1, h2]
    simp

/-- Cells of a row are stored, one behind the other. -/
theorem storeCells_row {w : World} {g : Nat} {cur : List Value} {t : TypeId} (vs : List Value) (off : Nat) (hg : w.heap[g]? = some (.cells cur.toArray t (0, 0))) (hfit : vs = [] ∨ off + vs.length ≤ cur.length) (h1 : ∀ v ∈ vs, v.oneCell' = true) :
    (storeCells ⟨g, off, none⟩ vs 0).run P w = .ok () (w.setRow g (setsL off vs cur).toArray) := by
  rcases hfit with rfl | hfit
  · simp only [storeCells, setsL, Sem.run_pure]
    rw [setRow_self w g cur.toArray t (0, 0) hg]
  · have := run_storeCells_at P g off t vs 0 cur.toArray w hg (by simpa using hfit) h1
    rw [setsL_eq vs off cur hfit]
    simpa using this

def allOne : List Value → Bool
  | [] => true
  | v :: l => v.oneCell' && allOne l
theorem allOne_mem : ∀ {l : List Value}, allOne l = true → ∀ v ∈ l, v.oneCell' = true
  | v :: l, h, u, hu => by
    simp only [allOne, Bool.and_eq_true] at h
    rcases List.mem_cons.1 hu with rfl | hu
    · exact h.1
    · exact allOne_mem h.2 u hu

/-- A store into an own box. -/
theorem OpW.storeB [G : Prg P] {t : Nat} {td : TD} {x y : Operand} {b off tb : Nat} {cs us cs' : List Value} {v : Value} {S' : List Own} (ho : o.op = .store t x y) (hd : o.dst = none) (ht : tlook G.T t = some td) (hx : ev e x = some (.pointer (some ⟨b, off, none⟩))) (hy : ev e y = some v)
    (hv : v.cells = us.toArray) (hlen : Nat.beq us.length td.size = true) (h1 : allOne us = true) (hp : putsK off us cs some = some cs') (hu : Upd S (.box b cs tb) (.box b cs' tb) S') :
    OpW P N w0 X M0 o e S M (fun e' S'' M' => e' = e ∧ S'' = S' ∧ M' = M) := by
  intro a w K Q hf hs hK
  have hb : w.heap[b]? = some (.cells cs.toArray tb (0, 0)) := hs.rd.own _ hu.mem
  obtain ⟨hfit, hset⟩ := putsK_some us off cs some hp
  simp only [Option.some.injEq] at hset
  have hst := storeCells_row (P := P) us off hb hfit (allOne_mem h1)
  rw [hset] at hst
  have hnew : (w.setRow b cs'.toArray).heap[b]? = some (.cells cs'.toArray tb (0, 0)) := setRow_heap w b _ _ tb _ hb
  have := hK _ _ _ a (w.setRow b cs'.toArray) ⟨rfl, rfl, rfl⟩ hf (hs.upd hu rfl rfl hnew rfl rfl rfl (by simp) (fun j _ hj => setRow_other w b j _ hj))
  unfold Oper.wp
  have hsz : us.length = td.size := Nat.eq_of_beq_eq_true hlen
  simp only [execOp, ho, Instr.storeAt, Instr.sureAddr, storeVar, Sem.run_bind, hf.eval hx, hf.eval hy, Sem.run_pure, Result.andThen_ok, run_sizeOfT ht, hv, List.size_toArray, hsz, ne_eq, not_true_eq_false, if_false, hst, hd, Oper.upon, Act.put]
  exact this

/-- A store into an own row. -/
theorem OpW.storeR [G : Prg P] {t : Nat} {td : TD} {x y : Operand} {g off cap n size el : Nat} {xs us : List Value} {v : Value} {S' : List Own} (ho : o.op = .store t x y) (hd : o.dst = none) (ht : tlook G.T t = some td) (hx : ev e x = some (.pointer (some ⟨g, off, none⟩))) (hy : ev e y = some v)
    (hv : v.cells = us.toArray) (hlen : Nat.beq us.length td.size = true) (h1 : allOne us = true) (hfit : off + us.length ≤ xs.length) (hu : Upd S (.row (some g) cap el size n xs) (.row (some g) cap el size n (setsL off us xs)) S') :
    OpW P N w0 X M0 o e S M (fun e' S'' M' => e' = e ∧ S'' = S' ∧ M' = M) := by
  intro a w K Q hf hs hK
  have hrow : w.ownsRow 0 el size (.slice (some ⟨g, 0, none⟩) n cap) n xs := hs.rd.own _ hu.mem
  obtain ⟨hl, hrow2⟩ := hrow
  rcases hrow2 with ⟨h0, _⟩ | ⟨g', cap', cur, hval, _, hh, hnc, hcm, hcs, htake⟩
  · cases h0
  · cases hval
    have hcl : xs.length ≤ cur.toList.length := by rw [← htake, List.length_take]; omega
    have hh' : w.heap[g]? = some (.cells cur.toList.toArray el (0, 0)) := by simpa using hh
    have hst := storeCells_row (P := P) us off hh' (.inr (by omega)) (allOne_mem h1)
    have hnew : (w.setRow g (setsL off us cur.toList).toArray).heap[g]? = some (.cells (setsL off us cur.toList).toArray el (0, 0)) := setRow_heap w g _ _ el _ hh
    have htk : ∀ (us : List Value) (off : Nat) (c : List Value) (m : Nat), off + us.length ≤ m → (setsL off us c).take m = setsL off us (c.take m) := by
      intro us
      induction us with
      | nil => intro off c m _; rfl
      | cons u us ih =>
        intro off c m hm
        simp only [setsL]
        rw [ih (off + 1) (c.set off u) m (by simp at hm; omega), List.take_set]
    have hy2 : (Own.row (some g) cap el size n (setsL off us xs)).holds (w.setRow g (setsL off us cur.toList).toArray) := by
      refine ⟨by rw [setsL_length]; exact hl, .inr ⟨g, cap, (setsL off us cur.toList).toArray, rfl, Nat.zero_le _, hnew, hnc, hcm, by simp [setsL_length]; simpa using hcs, ?_⟩⟩
      simp only []
      rw [htk us off cur.toList (n * size) (by omega), htake]
    have := hK _ _ _ a _ ⟨rfl, rfl, rfl⟩ hf (hs.upd hu rfl rfl hy2 rfl rfl rfl (by simp) (fun j _ hj => setRow_other w g j _ hj))
    unfold Oper.wp
    have hsz : us.length = td.size := Nat.eq_of_beq_eq_true hlen
    simp only [execOp, ho, Instr.storeAt, Instr.sureAddr, storeVar, Sem.run_bind, hf.eval hx, hf.eval hy, Sem.run_pure, Result.andThen_ok, run_sizeOfT ht, hv, List.size_toArray, hsz, ne_eq, not_true_eq_false, if_false, hst, hd, Oper.upon, Act.put]
    exact this

/-! ### Contracts -/
/-- A call, from every world in which the arguments' own blocks and M are met: the value, what is owned behind it, the memory behind it. -/
def Fn (P : Program) (f : FuncId) (args : List Value) (Sin : List Own) (M : Mem) (Post : Value → List Own → Mem → Prop) : Prop :=
  ∀ w, St w (Sin.filterMap Own.blk) M Sin M w → Calls P f args.toArray w fun en w' => ∃ v Sout M', en = .returned v ∧ St w (Sin.filterMap Own.blk) M Sout M' w' ∧ Post v Sout M'

theorem Fn.mono {f : FuncId} {args : List Value} {Sin : List Own} {Post Post' : Value → List Own → Mem → Prop} (h : Fn P f args Sin M Post) (hp : ∀ v S' M', Mle M M' → Post v S' M' → Post' v S' M') : Fn P f args Sin M Post' :=
  fun w hw => (h w hw).mono fun en w' ⟨v, S', M', he, hs, hq⟩ => ⟨v, S', M', he, hs, hp v S' M' hs.mle hq⟩

theorem St.sub_call {w : World} {Sin Sr : List Own} (h : St w0 X M0 (Sin ++ Sr) M w) : St w (Sin.filterMap Own.blk) M Sin M w := by
  have h' := h.drop (S2 := Sin) (List.sublist_append_left _ _)
  exact St.start h'.rd.own h'.rd.mem h'.disj h'.sep fun o ho b hb => List.mem_filterMap.2 ⟨o, ho, hb⟩

theorem St.after_call {w w' : World} {Sin Sr Sout : List Own} {M' : Mem} (h : St w0 X M0 (Sin ++ Sr) M w) (hc : St w (Sin.filterMap Own.blk) M Sout M' w') : St w0 X M0 (Sout ++ Sr) M' w' := by
  have hin : ∀ b, b ∈ Sin.filterMap Own.blk → ∃ o ∈ Sin, o.blk = some b := fun b hb => by simpa using List.mem_filterMap.1 hb
  have hdis := List.pairwise_append.1 h.disj
  have hold : ∀ o ∈ Sr, ∀ b, o.blk = some b → b < w.heap.size ∧ b ∉ Sin.filterMap Own.blk := fun o ho b hb => by
    refine ⟨Own.holds_lt (h.rd.own o (List.mem_append_right _ ho)) hb, fun hm => ?_⟩
    obtain ⟨o', ho', hb'⟩ := hin b hm
    exact hdis.2.2 o' ho' o ho b hb' hb
  refine { os := hc.os.trans h.os, tape := hc.tape.trans h.tape, output := hc.output.trans h.output, size := Nat.le_trans h.size hc.size, frame := fun b hb hX => ?_, rd := ⟨fun o ho => ?_, hc.rd.mem⟩, disj := ?_, sep := fun o ho b hb => ?_, new := fun o ho b hb => ?_, ext1 := fun b o hb => hc.ext1 b o (h.ext1 b o hb), ext2 := fun b o hb => ?_ }
  · rw [hc.frame b (Nat.lt_of_lt_of_le hb h.size) ?_]
    · exact h.frame b hb hX
    · intro hm
      obtain ⟨o, ho, hob⟩ := hin b hm
      rcases h.new o (List.mem_append_left _ ho) b hob with hn | hn
      · exact hX hn
      · omega
  · rcases List.mem_append.1 ho with ho | ho
    · exact hc.rd.own o ho
    · exact Own.holds_of_same (h.rd.own o (List.mem_append_right _ ho)) fun b hb => hc.frame b (hold o ho b hb).1 (hold o ho b hb).2
  · refine List.pairwise_append.2 ⟨hc.disj, hdis.2.1, fun o1 h1 o2 h2 b hb1 hb2 => ?_⟩
    rcases hc.new o1 h1 b hb1 with hn | hn
    · exact (hold o2 h2 b hb2).2 hn
    · have := (hold o2 h2 b hb2).1; omega
  · rcases List.mem_append.1 ho with ho | ho
    · exact hc.sep o ho b hb
    · cases hM : M' b with
      | none => rfl
      | some x =>
        rcases hc.ext2 b x hM with h1 | h1 | h1
        · rw [h.sep o (List.mem_append_right _ ho) b hb] at h1; cases h1
        · have := (hold o ho b hb).1; omega
        · exact absurd h1 (hold o ho b hb).2
  · rcases List.mem_append.1 ho with ho | ho
    · rcases hc.new o ho b hb with hn | hn
      · obtain ⟨o', ho', hb'⟩ := hin b hn
        exact h.new o' (List.mem_append_left _ ho') b hb'
      · exact .inr (Nat.le_trans h.size hn)
    · exact h.new o (List.mem_append_right _ ho) b hb
  · rcases hc.ext2 b o hb with h1 | h1 | h1
    · exact h.ext2 b o h1
    · exact .inr (.inl (Nat.le_trans h.size h1))
    · obtain ⟨o', ho', hb'⟩ := hin b h1
      rcases h.new o' (List.mem_append_left _ ho') b hb' with hn | hn
      · exact .inr (.inr hn)
      · exact .inr (.inl hn)

/-- A call of a function value: its own arguments, then what it captured. -/
theorem OpW.call {g : FuncId} {c : Call} {f : Operand} {args : List Operand} {vs cap : List Value} {d : Nat} {Sin Sr : List Own} {Post : Value → List Own → Mem → Prop} (ho : o.op = .call c) (hc : c.callee = .value f) (ha : c.args = args.toArray) (hd : o.dst = some d) (hN : Nat.blt d N = true)
    (hcall : ∀ args w, (callFunc g args).run P w = .ok (.enter g args) w) (hf : ev e f = some (.func (.func g) #[] cap.toArray)) (hargs : evK args e (fun l => some (Value.agg l.toArray)) = some (.agg vs.toArray)) (hS : S = Sin ++ Sr) (hfn : Fn P g (vs ++ cap) Sin M Post) :
    OpW P N w0 X M0 o e S M (fun e' S' M' => ∃ v Sout, e' = (d, v) :: e ∧ S' = Sout ++ Sr ∧ Mle M M' ∧ Post v Sout M') := by
  intro a w K Q hfit hs hK
  subst hS
  have hmap : args.map a.eval = vs := by
    have := evK_some hfit args _ hargs
    simpa using this
  have hcl := hfn w hs.sub_call
  unfold Oper.wp
  simp only [execOp, ho, resolve, hc, ha, hfit.eval hf, Deferred.ofValue, invoke, Sem.run_bind, Sem.run_pure, Result.andThen_ok, List.map_toArray, hmap, List.append_toArray, hcall, Oper.upon]
  refine hcl.mono fun en w' ⟨v, Sout, M', hen, hst, hp⟩ => ?_
  subst hen
  refine hK _ _ _ _ _ ⟨v, Sout, rfl, rfl, hst.mle, hp⟩ ?_ (hs.after_call hst)
  rw [hd]
  exact hfit.put hN v

/-! ### Entering and leaving -/
def RfP (w0 : World) (X : List Nat) (M0 : Mem) (Post : Value → List Own → Mem → Prop) : Ending → World → Prop :=
  fun en w' => ∃ v Sout M', en = .returned v ∧ St w0 X M0 Sout M' w' ∧ Post v Sout M'

def argsE : Nat → List Value → Env
  | _, [] => []
  | i, v :: l => (i, v) :: argsE (i + 1) l
theorem argsE_look : ∀ (l : List Value) (i j : Nat) (v : Value), look (argsE i l) j = some v → i ≤ j ∧ l[j - i]? = some v
  | [], i, j, v, h => by simp [argsE, look] at h
  | u :: l, i, j, v, h => by
    simp only [argsE, look] at h
    by_cases hij : i = j
    · subst hij; simp at h; subst h; simp
    · rw [Nat.beq_eq_false_iff_ne.2 hij] at h
      obtain ⟨h1, h2⟩ := argsE_look l (i + 1) j v h
      refine ⟨by omega, ?_⟩
      rw [show j - i = (j - (i + 1)) + 1 by omega]
      simpa using h2

theorem Fn.enter {f : FuncId} {c : Code} {args : List Value} {Sin : List Own} {Post : Value → List Own → Mem → Prop} {E : Env} (hf : P.funcs[f]? = some fn) (hb : fn.body = some c) (hn : fn.ntmps = N) (hl : Nat.ble args.length N = true) (hE : argsE 0 args = E)
    (h : ∀ w0, R P fn N (RfP w0 (Sin.filterMap Own.blk) M Post) w0 (Sin.filterMap Own.blk) M [.c c] E Sin M) : Fn P f args Sin M Post := by
  intro w hw
  subst hE hn
  refine calls_of_wp hf hb ?_
  have hl' : args.length ≤ fn.ntmps := Nat.le_of_ble_eq_true hl
  have := h w { tmps := args.toArray ++ Array.replicate (fn.ntmps - args.toArray.size) undef, defers := [] } w ⟨by simp; omega, rfl, fun i v hv => ?_⟩ hw
  · refine Code.wp_mono (fun x a w q => ?_) this
    cases x <;> exact q
  · obtain ⟨_, h2⟩ := argsE_look args 0 i v hv
    simp only [Nat.sub_zero] at h2
    have hlt : i < args.length := by
      rcases Nat.lt_or_ge i args.length with h' | h'
      · exact h'
      · rw [List.getElem?_eq_none h'] at h2; cases h2
    rw [List.getElem?_eq_getElem hlt] at h2
    simp only [Option.some.injEq] at h2
    simp [Array.getElem?_append, hlt, h2]

theorem R.fin {v : Value} {Post : Value → List Own → Mem → Prop} {S2 : List Own} (hv : ∀ a w, Fits N e a → Rd S M w → (results fn a.tmps).run P w = .ok v w) (hS : S2.Sublist S) (hP : Mle M0 M → Post v S2 M) : R P fn N (RfP w0 X M0 Post) w0 X M0 [] e S M := by
  intro a w hf hs
  exact ⟨hf.defers, v, hv a w hf hs.rd, v, S2, M, rfl, hs.drop hS, hP hs.mle⟩

theorem Fits.getD {a : Act} (hf : Fits N e a) {t : Nat} {v : Value} (h : look e t = some v) : a.tmps.getD t undef = v := by
  have := hf.get t v h
  simp [this]

theorem Fits.getD' {a : Act} (hf : Fits N e a) {t : Nat} {v : Value} (h : look e t = some v) : a.tmps[t]?.getD undef = v := by
  have := hf.get t v h
  simp [this]

theorem R.ret0 {Post : Value → List Own → Mem → Prop} {S2 : List Own} (hr : fn.results = #[]) (hS : S2.Sublist S) (hP : Mle M0 M → Post (.tuple #[]) S2 M) : R P fn N (RfP w0 X M0 Post) w0 X M0 [] e S M :=
  R.fin (fun a w hf hs => results_none hr _ _ _) hS hP
theorem R.ret1 {Post : Value → List Own → Mem → Prop} {S2 : List Own} {t : Nat} {v : Value} (hr : fn.results = #[.tmp t]) (ht : look e t = some v) (hS : S2.Sublist S) (hP : Mle M0 M → Post v S2 M) : R P fn N (RfP w0 X M0 Post) w0 X M0 [] e S M :=
  R.fin (fun a w hf hs => by rw [results_tmp hr, hf.getD ht]) hS hP
theorem R.ret2 {Post : Value → List Own → Mem → Prop} {S2 : List Own} {t u : Nat} {v z : Value} (hr : fn.results = #[.tmp t, .tmp u]) (ht : look e t = some v) (hu : look e u = some z) (hS : S2.Sublist S) (hP : Mle M0 M → Post (.tuple #[v, z]) S2 M) : R P fn N (RfP w0 X M0 Post) w0 X M0 [] e S M :=
  R.fin (fun a w hf hs => by rw [results_tmp2 hr, hf.getD ht, hf.getD hu]) hS hP
theorem R.ret3 {Post : Value → List Own → Mem → Prop} {S2 : List Own} {t u x : Nat} {v z y : Value} (hr : fn.results = #[.tmp t, .tmp u, .tmp x]) (ht : look e t = some v) (hu : look e u = some z) (hx : look e x = some y) (hS : S2.Sublist S) (hP : Mle M0 M → Post (.tuple #[v, z, y]) S2 M) : R P fn N (RfP w0 X M0 Post) w0 X M0 [] e S M :=
  R.fin (fun a w hf hs => by rw [results_tmp3 hr, hf.getD ht, hf.getD hu, hf.getD hx]) hS hP
/-- The result is a struct in an own box. -/
theorem R.retC [G : Prg P] {Post : Value → List Own → Mem → Prop} {S2 : List Own} {t ty tb b : Nat} {td : TD} {v : Value} {cs : List Value} (hr : fn.results = #[.cell t ty]) (ht : look e t = some (.pointer (some ⟨b, 0, none⟩))) (hty : tlook G.T ty = some td) (hb : Own.box b cs tb ∈ S) (hv : readK td 0 cs = some v) (hS : S2.Sublist S)
    (hP : Mle M0 M → Post v S2 M) : R P fn N (RfP w0 X M0 Post) w0 X M0 [] e S M :=
  R.fin (fun a w hf hs => by
    have h1 := run_loadVarT (P := P) hty (Own.box_cell (hs.own _ hb)) hv
    simp [results, hr, hf.getD' ht, asAddr, h1]) hS hP
/-- A struct in an own box, and a second result in a slot. -/
theorem R.retCT [G : Prg P] {Post : Value → List Own → Mem → Prop} {S2 : List Own} {t u ty tb b : Nat} {td : TD} {v z : Value} {cs : List Value} (hr : fn.results = #[.cell t ty, .tmp u]) (ht : look e t = some (.pointer (some ⟨b, 0, none⟩))) (hu : look e u = some z) (hty : tlook G.T ty = some td) (hb : Own.box b cs tb ∈ S) (hv : readK td 0 cs = some v)
    (hS : S2.Sublist S) (hP : Mle M0 M → Post (.tuple #[v, z]) S2 M) : R P fn N (RfP w0 X M0 Post) w0 X M0 [] e S M :=
  R.fin (fun a w hf hs => by
    have h1 := run_loadVarT (P := P) hty (Own.box_cell (hs.own _ hb)) hv
    simp [results, hr, hf.getD' ht, hf.getD' hu, asAddr, h1]) hS hP
end

end Go.Proofs.Ytaaiimlaklpjpaa
