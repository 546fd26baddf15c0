/- The engine, ninth part: rows that are frozen and thawed; reads from wherever a slice lies; strings out of bytes; copy. No condition. -/
import Derived.Test.YtaaiimlaklpjpaaEngH
namespace Go.Proofs.Ytaaiimlaklpjpaa
open Go
set_option linter.unusedVariables false

/-- The bytes of a list, as cells. -/
def u8s (l : List UInt8) : List Value := l.map fun b => .int .u8 b.toNat
@[simp] theorem u8s_length (l : List UInt8) : (u8s l).length = l.length := by simp [u8s]
theorem u8s_append (a b : List UInt8) : u8s (a ++ b) = u8s a ++ u8s b := by simp [u8s]
theorem u8s_one {l : List UInt8} : ∀ u ∈ u8s l, u.oneCell' = true := by
  intro u hu
  obtain ⟨b, _, rfl⟩ := List.mem_map.1 hu
  rfl
theorem u8s_get {l : List UInt8} {i : Nat} (h : i < l.length) : (u8s l)[i]? = some (.int .u8 l[i].toNat) := by simp [u8s, h]
theorem u8s_take (l : List UInt8) (n : Nat) : (u8s l).take n = u8s (l.take n) := by simp [u8s]
theorem u8s_drop (l : List UInt8) (n : Nat) : (u8s l).drop n = u8s (l.drop n) := by simp [u8s]
theorem u8s_inj {a b : List UInt8} (h : u8s a = u8s b) : a = b := by
  induction a generalizing b with
  | nil => cases b with
    | nil => rfl
    | cons => simp [u8s] at h
  | cons x a ih => cases b with
    | nil => simp [u8s] at h
    | cons y b =>
      simp only [u8s, List.map_cons, List.cons.injEq, Value.int.injEq, true_and] at h
      have h1 : x = y := UInt8.toNat_inj.1 (by omega)
      rw [h1, ih h.2]

/-- A row that does not turn. -/
def RowM (M : Mem) (ao : Option Nat) (cap el size n : Nat) (xs : List Value) : Prop :=
  xs.length = n * size ∧ (ao = none → n = 0 ∧ cap = 0) ∧ ∀ g, ao = some g → ∃ cur : Array Value, M g = some (.cells cur el (0, 0)) ∧ n ≤ cap ∧ cap ≤ maxLen ∧ cur.size = cap * size ∧ cur.toList.take (n * size) = xs
theorem RowM.mle {M M' : Mem} (hm : Mle M M') {ao : Option Nat} {cap el size n : Nat} {xs : List Value} (h : RowM M ao cap el size n xs) : RowM M' ao cap el size n xs :=
  ⟨h.1, h.2.1, fun g hg => by obtain ⟨cur, h1, h2⟩ := h.2.2 g hg; exact ⟨cur, hm _ _ h1, h2⟩⟩
theorem RowM.len {M : Mem} {ao : Option Nat} {cap el size n : Nat} {xs : List Value} (h : RowM M ao cap el size n xs) : n ≤ cap := by
  cases ao with
  | none => have := h.2.1 rfl; omega
  | some g => obtain ⟨cur, _, h2, _⟩ := h.2.2 g rfl; exact h2
theorem RowM.sl {M : Mem} {ao : Option Nat} {cap el size n : Nat} {xs : List Value} (h : RowM M ao cap el size n xs) : SlM M (ao.map fun g => ⟨g, 0, none⟩) n cap xs := by
  refine ⟨h.len, fun hn => h.2.1 (by cases ao with | none => rfl | some g => cases hn), fun a ha _ => ?_⟩
  cases ao with
  | none => cases ha
  | some g =>
    cases ha
    obtain ⟨cur, h1, _, _, _, h5⟩ := h.2.2 g rfl
    refine ⟨rfl, fun i v hi => ?_⟩
    simp only [cellM, h1, Nat.zero_add]
    rw [← h5, List.getElem?_take] at hi
    split at hi
    · simpa using hi
    · cases hi
theorem RowM.ne {M : Mem} {g cap el size n : Nat} {xs : List Value} (h : RowM M (some g) cap el size n xs) : M g ≠ none := by
  obtain ⟨cur, h1, _⟩ := h.2.2 g rfl
  rw [h1]; exact fun h => by cases h
theorem RowM.nil (M : Mem) (el size : Nat) : RowM M none 0 el size 0 [] := ⟨by simp, fun _ => ⟨rfl, rfl⟩, fun g hg => by cases hg⟩

def Mem.del (M : Mem) (g : Nat) : Mem := fun b => if b = g then none else M b
theorem Mem.del_le (M : Mem) (g : Nat) : Mle (M.del g) M := fun b o h => by
  unfold Mem.del at h
  split at h
  · cases h
  · exact h
theorem Mle.del {M M' : Mem} (h : Mle M M') {g : Nat} (hg : M g = none) : Mle M (M'.del g) := fun b o hb => by
  have hne : b ≠ g := by rintro rfl; rw [hg] at hb; cases hb
  simp only [Mem.del, hne, if_false]
  exact h b o hb
theorem RowM.del {M : Mem} {ao : Option Nat} {cap el size n g : Nat} {xs : List Value} (h : RowM M ao cap el size n xs) (hg : ao ≠ some g) : RowM (M.del g) ao cap el size n xs :=
  ⟨h.1, h.2.1, fun b hb => by
    obtain ⟨cur, h1, h2⟩ := h.2.2 b hb
    refine ⟨cur, ?_, h2⟩
    have : b ≠ g := by rintro rfl; exact hg hb
    simp only [Mem.del, this, if_false]
    exact h1⟩

section
variable {P : Program} {fn : Func} {N : Nat} {Rf : Ending → World → Prop} {w0 : World} {X : List Nat} {M0 : Mem} {k : List It} {e : Env} {S : List Own} {M : Mem} {ops : Array Oper} {rest : List Oper} {o : Oper} {d : Nat}

theorem St.thaw {w : World} {g cap el size n : Nat} {xs : List Value} (hr : RowM M (some g) cap el size n xs) (h0 : M0 g = none) (hs : St w0 X M0 S M w) : St w0 X M0 (.row (some g) cap el size n xs :: S) (M.del g) w := by
  obtain ⟨hl, _, h2⟩ := hr
  obtain ⟨cur, hM, hnc, hcm, hcs, htk⟩ := h2 g rfl
  have hh := hs.rd.mem g _ hM
  refine { os := hs.os, tape := hs.tape, output := hs.output, size := hs.size, frame := hs.frame, rd := ⟨fun o ho => ?_, fun b o hb => hs.rd.mem b o (M.del_le g b o hb)⟩, disj := List.pairwise_cons.2 ⟨fun o ho b hb hb2 => ?_, hs.disj⟩, sep := fun o ho b hb => ?_, new := fun o ho b hb => ?_, ext1 := fun b o hb => (Mle.del hs.ext1 h0) b o hb, ext2 := fun b o hb => hs.ext2 b o (M.del_le g b o hb) }
  · rcases List.mem_cons.1 ho with rfl | ho
    · exact ⟨hl, .inr ⟨g, cap, cur, rfl, Nat.zero_le _, hh, hnc, hcm, hcs, htk⟩⟩
    · exact hs.rd.own o ho
  · cases hb
    have := hs.sep o ho g hb2
    rw [hM] at this; cases this
  · rcases List.mem_cons.1 ho with rfl | ho
    · cases hb; simp [Mem.del]
    · simp only [Mem.del]
      split
      · rfl
      · exact hs.sep o ho b hb
  · rcases List.mem_cons.1 ho with rfl | ho
    · cases hb
      rcases hs.ext2 g _ hM with h | h | h
      · rw [h0] at h; cases h
      · exact .inr h
      · exact .inl h
    · exact hs.new o ho b hb
theorem R.thaw {g cap el size n : Nat} {xs : List Value} (hr : RowM M (some g) cap el size n xs) (h0 : M0 g = none) (h : R P fn N Rf w0 X M0 k e (.row (some g) cap el size n xs :: S) (M.del g)) : R P fn N Rf w0 X M0 k e S M :=
  fun a w hf hs => h a w hf (hs.thaw hr h0)
theorem WL.thaw {l : List Oper} {g cap el size n : Nat} {xs : List Value} (hr : RowM M (some g) cap el size n xs) (h0 : M0 g = none) (h : WL P fn N Rf w0 X M0 k ops l e (.row (some g) cap el size n xs :: S) (M.del g)) : WL P fn N Rf w0 X M0 k ops l e S M :=
  fun a w hf hs => h a w hf (hs.thaw hr h0)

theorem St.freezeRow {w : World} {ao : Option Nat} {cap el size n : Nat} {xs : List Value} (hs : St w0 X M0 (.row ao cap el size n xs :: S) M w) : ∃ M', Mle M M' ∧ RowM M' ao cap el size n xs ∧ (∀ g, ao = some g → M g = none) ∧ St w0 X M0 S M' w := by
  obtain ⟨M', hm, hb, hst⟩ := hs.freeze
  have hrow : w.ownsRow 0 el size (rowV ao n cap) n xs := hs.rd.own _ List.mem_cons_self
  refine ⟨M', hm, ⟨hrow.1, fun hn => ?_, fun g hg => ?_⟩, fun g hg => hs.sep _ List.mem_cons_self g hg, hst⟩
  · rcases hrow.2 with ⟨h0, rfl⟩ | ⟨g, cap', cur, hv, _⟩
    · subst hn; simp [rowV] at h0; exact ⟨rfl, h0⟩
    · subst hn; simp [rowV] at hv
  · subst hg
    rcases hrow.2 with ⟨h0, rfl⟩ | ⟨g', cap', cur, hv, _, hh, hnc, hcm, hcs, htake⟩
    · simp [rowV] at h0
    · simp [rowV] at hv
      obtain ⟨rfl, rfl⟩ := hv
      exact ⟨cur, by rw [hb g rfl]; exact hh, hnc, hcm, hcs, htake⟩
/-- A row of one's own does not turn any more, and was not met before. -/
theorem R.frz {ao : Option Nat} {cap el size n : Nat} {xs : List Value} {S' : List Own} (hu : Pull S (.row ao cap el size n xs) S') (h : ∀ M', Mle M M' → RowM M' ao cap el size n xs → (∀ g, ao = some g → M g = none) → R P fn N Rf w0 X M0 k e S' M') : R P fn N Rf w0 X M0 k e S M := by
  intro a w hf hs
  obtain ⟨M', hm, hr, hg, hst⟩ := (hs.perm hu.perm).freezeRow
  exact h M' hm hr hg a w hf hst
theorem WL.frz {l : List Oper} {ao : Option Nat} {cap el size n : Nat} {xs : List Value} {S' : List Own} (hu : Pull S (.row ao cap el size n xs) S') (h : ∀ M', Mle M M' → RowM M' ao cap el size n xs → (∀ g, ao = some g → M g = none) → WL P fn N Rf w0 X M0 k ops l e S' M') : WL P fn N Rf w0 X M0 k ops l e S M := by
  intro a w hf hs
  obtain ⟨M', hm, hr, hg, hst⟩ := (hs.perm hu.perm).freezeRow
  exact h M' hm hr hg a w hf hst
/-- What is in an own row lies there. -/
theorem WL.rowFact {l : List Oper} {ao : Option Nat} {cap el size n : Nat} {xs : List Value} (hm : Own.row ao cap el size n xs ∈ S) (h : xs.length = n * size → n ≤ cap → (ao = none → n = 0 ∧ cap = 0) → WL P fn N Rf w0 X M0 k ops l e S M) : WL P fn N Rf w0 X M0 k ops l e S M := by
  intro a w hf hs
  have hrow : w.ownsRow 0 el size (rowV ao n cap) n xs := hs.rd.own _ hm
  refine h hrow.1 ?_ ?_ a w hf hs
  · rcases hrow.2 with ⟨h0, rfl⟩ | ⟨g', cap', cur, hv, _, hh, hnc, _⟩
    · exact Nat.zero_le _
    · cases ao with
      | none => simp [rowV] at hv
      | some g => simp [rowV] at hv; omega
  · rintro rfl
    rcases hrow.2 with ⟨h0, rfl⟩ | ⟨g', cap', cur, hv, _⟩
    · simp [rowV] at h0; exact ⟨rfl, h0⟩
    · simp [rowV] at hv
theorem R.rowFact {ao : Option Nat} {cap el size n : Nat} {xs : List Value} (hm : Own.row ao cap el size n xs ∈ S) (h : xs.length = n * size → n ≤ cap → (ao = none → n = 0 ∧ cap = 0) → R P fn N Rf w0 X M0 k e S M) : R P fn N Rf w0 X M0 k e S M :=
  fun a w hf hs => (show WL P fn N Rf w0 X M0 k #[] [] e S M from WL.rowFact hm (fun h1 h2 h3 => WL.nil (h h1 h2 h3))) a w hf hs

/-! ### Reads from wherever a slice lies -/
theorem Src.sub {S S2 : List Own} {M M2 : Mem} {ao : Option Addr} {xs : List Value} (h : Src S M ao xs) (hs : ∀ o ∈ S, o ∈ S2) (hm : Mle M M2) : Src S2 M2 ao xs := fun w hr => h w (hr.sub hs hm)
theorem Src.cons {x : Own} {ao : Option Addr} {xs : List Value} (h : Src S M ao xs) : Src (x :: S) M ao xs := h.sub (fun o ho => List.mem_cons_of_mem _ ho) (Mle.refl _)
theorem Src.mle {M' : Mem} (hm : Mle M M') {ao : Option Addr} {xs : List Value} (h : Src S M ao xs) : Src S M' ao xs := h.sub (fun o ho => ho) hm
theorem Src.seg {b off : Nat} {xs : List Value} (h : Src S M (some ⟨b, off, none⟩) xs) (j m : Nat) : Src S M (some ⟨b, off + j, none⟩) ((xs.drop j).take m) := by
  intro w hr a ha i u hu
  cases ha
  rw [Addr.add_lit]
  rw [List.getElem?_take] at hu
  split at hu
  · rw [List.getElem?_drop] at hu
    have := h w hr _ rfl (j + i) u hu
    rw [Addr.add_lit] at this
    rwa [Nat.add_assoc]
  · cases hu
variable [G : Prg P] {v : Value}
theorem Ev.loadS {t : Nat} {x : Operand} {d : TD} {b off : Nat} {ys : List Value} (ho : o.op = .load t x) (ht : tlook G.T t = some d) (hx : ev e x = some (.pointer (some ⟨b, off, none⟩)))
    (hM : Src S M (some ⟨b, off, none⟩) ys) (h : readK d 0 ys = some v) : Ev P o e S M v := by
  intro N a w hf hrd
  have hc : ∀ i u, ys[i]? = some u → w.cell? ⟨b, off + i, none⟩ = some u := fun i u hi => by
    have := hM w hrd _ rfl i u hi
    rwa [Addr.add_lit] at this
  have key : (loadVar t ⟨b, off, none⟩).run P w = .ok v w := by
    simp only [loadVar, Sem.run_bind, run_isAggT ht, Result.andThen_ok]
    unfold readK at h
    cases ha : d.agg with
    | true =>
      simp only [ha] at h
      obtain ⟨h3, h4⟩ := takeK_some d.size _ _ h
      simp only [Option.some.injEq] at h4
      subst h4
      have hl : (ys.take d.size).length = d.size := by rw [List.length_take]; omega
      have := run_loadCells_list (P := P) w ⟨b, off, none⟩ (ys.take d.size) (fun j u hj => by
        rw [Addr.add_lit]
        rw [List.getElem?_take] at hj
        split at hj
        · exact hc _ _ hj
        · cases hj)
      rw [hl] at this
      simp [run_sizeOfT ht, this]
    | false =>
      simp only [ha] at h
      obtain ⟨u, hu, hk⟩ := getK_some 0 ys h
      simp only [Option.some.injEq] at hk
      subst hk
      have := hc _ _ hu
      simp at this
      simp [this]
  simp [execOp, ho, hf.eval hx, Instr.loadAt, Instr.sureAddr, key]
theorem WL.ls {t : Nat} {x : Operand} {td : TD} {b off : Nat} {ys : List Value} {v : Value} (hg : o.guard = none) (hd : o.dst = some d) (hN : Nat.blt d N = true) (ho : o.op = .load t x) (ht : tlook G.T t = some td) (hx : ev e x = some (.pointer (some ⟨b, off, none⟩)))
    (hM : Src S M (some ⟨b, off, none⟩) ys) (hr : readK td 0 ys = some v) (h : WL P fn N Rf w0 X M0 k ops rest ((d, v) :: e) S M) : WL P fn N Rf w0 X M0 k ops (o :: rest) e S M :=
  WL.step hg hd hN (Ev.loadS ho ht hx hM hr) h
/-- A load out of an own row. -/
theorem WL.lr {t : Nat} {x : Operand} {td : TD} {b off cap n size : Nat} {et : TypeId} {xs : List Value} (j : Nat) (m : Nat) {v : Value} (hg : o.guard = none) (hd : o.dst = some d) (hN : Nat.blt d N = true) (ho : o.op = .load t x) (ht : tlook G.T t = some td) (hx : ev e x = some (.pointer (some ⟨b, off, none⟩)))
    (hS : Own.row (some b) cap et size n xs ∈ S) {ys : List Value} (hys : ∀ i u, ys[i]? = some u → xs[off + i]? = some u) (hr : readK td 0 ys = some v) (h : WL P fn N Rf w0 X M0 k ops rest ((d, v) :: e) S M) : WL P fn N Rf w0 X M0 k ops (o :: rest) e S M :=
  WL.step hg hd hN (Ev.loadR ho ht hx hS hys hr) h

/-! ### Naturals among the numbers -/
omit G in
theorem i64_andN (a b : Nat) (ha : a < 4294967296) (hb : b < 4294967296) : bits .and .i64 a b = ((a &&& b : Nat) : Int) :=
  (bits_nat .i64 32 (by decide) (fun n h0 h1 => IntWalk.i64_in n (by omega)) a b ha hb).1
omit G in
theorem i64_nat (q : Nat) (h : q ≤ 9223372036854775807) : IntKind.i64.wrap (q : Int) = q := IntWalk.i64_in _ (by omega)
omit G in
theorem u32_nat (q : Nat) (h : q < 4294967296) : IntKind.u32.wrap (q : Int) = q := by rw [IntKind.wrap_u32, Int.emod_eq_of_lt (by omega) (by omega)]
omit G in
theorem u8_nat (q : Nat) (h : q < 256) : IntKind.u8.wrap (q : Int) = q := by rw [IntKind.wrap_u8, Int.emod_eq_of_lt (by omega) (by omega)]
omit G in
theorem Ev.quoN {t yt : Nat} {x y : Operand} {a b : Nat} (ho : o.op = .binOp .quo t x y yt) (hx : ev e x = some (.int .i64 (a : Int))) (hy : ev e y = some (.int .i64 (b : Int))) (hb : b ≠ 0) (ha : a ≤ 9223372036854775807) : Ev P o e S M (.int .i64 ((a / b : Nat) : Int)) := by
  have := Ev.quo (P := P) (S := S) (M := M) ho hx hy (by omega)
  rwa [show (a : Int).tdiv (b : Int) = ((a / b : Nat) : Int) from rfl, i64_nat _ (Nat.le_trans (Nat.div_le_self a b) ha)] at this
omit G in
theorem Ev.remN {t yt : Nat} {x y : Operand} {a b : Nat} (ho : o.op = .binOp .rem t x y yt) (hx : ev e x = some (.int .i64 (a : Int))) (hy : ev e y = some (.int .i64 (b : Int))) (hb : b ≠ 0) : Ev P o e S M (.int .i64 ((a % b : Nat) : Int)) :=
  Ev.rem (P := P) (S := S) (M := M) ho hx hy (by omega)
omit G in
theorem Ev.quoU {t yt : Nat} {x y : Operand} {a b : Nat} (ho : o.op = .binOp .quo t x y yt) (hx : ev e x = some (.int .u32 (a : Int))) (hy : ev e y = some (.int .u32 (b : Int))) (hb : b ≠ 0) (ha : a < 4294967296) : Ev P o e S M (.int .u32 ((a / b : Nat) : Int)) := by
  have := Ev.quo (P := P) (S := S) (M := M) ho hx hy (by omega)
  rwa [show (a : Int).tdiv (b : Int) = ((a / b : Nat) : Int) from rfl, u32_nat _ (Nat.lt_of_le_of_lt (Nat.div_le_self a b) ha)] at this
omit G in
theorem Ev.shlU {t yt : Nat} {x y : Operand} {a b : Nat} (ho : o.op = .binOp .shl t x y yt) (hx : ev e x = some (.int .u32 (a : Int))) (hy : ev e y = some (.int .i64 (b : Int))) (hb : b ≤ 32) (h : a * 2 ^ b < 4294967296) : Ev P o e S M (.int .u32 ((a * 2 ^ b : Nat) : Int)) := by
  have := Ev.shl (P := P) (S := S) (M := M) ho hx hy (by omega)
  rw [show min (b : Int).toNat IntKind.u32.bits = b from Nat.min_eq_left hb] at this
  rwa [show (a : Int) * 2 ^ b = ((a * 2 ^ b : Nat) : Int) by push_cast; rfl, u32_nat _ h] at this
omit G in
theorem Ev.shlI {t yt : Nat} {x y : Operand} {a b : Nat} (ho : o.op = .binOp .shl t x y yt) (hx : ev e x = some (.int .i64 (a : Int))) (hy : ev e y = some (.int .i64 (b : Int))) (hb : b ≤ 64) (h : a * 2 ^ b ≤ 9223372036854775807) : Ev P o e S M (.int .i64 ((a * 2 ^ b : Nat) : Int)) := by
  have := Ev.shl (P := P) (S := S) (M := M) ho hx hy (by omega)
  rw [show min (b : Int).toNat IntKind.i64.bits = b from Nat.min_eq_left hb] at this
  rwa [show (a : Int) * 2 ^ b = ((a * 2 ^ b : Nat) : Int) by push_cast; rfl, i64_nat _ h] at this
omit G in
theorem Ev.shlB {t yt : Nat} {x y : Operand} {a b : Nat} (ho : o.op = .binOp .shl t x y yt) (hx : ev e x = some (.int .u8 (a : Int))) (hy : ev e y = some (.int .i64 (b : Int))) (hb : b ≤ 8) (h : a * 2 ^ b < 256) : Ev P o e S M (.int .u8 ((a * 2 ^ b : Nat) : Int)) := by
  have := Ev.shl (P := P) (S := S) (M := M) ho hx hy (by omega)
  rw [show min (b : Int).toNat IntKind.u8.bits = b from Nat.min_eq_left hb] at this
  rwa [show (a : Int) * 2 ^ b = ((a * 2 ^ b : Nat) : Int) by push_cast; rfl, u8_nat _ h] at this
omit G in
theorem fdiv_pow (a b : Nat) : (a : Int).fdiv (2 ^ b) = ((a / 2 ^ b : Nat) : Int) := by
  rw [show (2 : Int) ^ b = ((2 ^ b : Nat) : Int) by push_cast; rfl, Int.fdiv_eq_ediv_of_nonneg _ (Int.natCast_nonneg _)]
  rfl
omit G in
theorem Ev.shrU {t yt : Nat} {x y : Operand} {a b : Nat} (ho : o.op = .binOp .shr t x y yt) (hx : ev e x = some (.int .u32 (a : Int))) (hy : ev e y = some (.int .i64 (b : Int))) (hb : b ≤ 32) : Ev P o e S M (.int .u32 ((a / 2 ^ b : Nat) : Int)) := by
  have := Ev.shr (P := P) (S := S) (M := M) ho hx hy (by omega)
  rwa [show min (b : Int).toNat IntKind.u32.bits = b from Nat.min_eq_left hb, fdiv_pow] at this
omit G in
theorem Ev.shrI {t yt : Nat} {x y : Operand} {a b : Nat} (ho : o.op = .binOp .shr t x y yt) (hx : ev e x = some (.int .i64 (a : Int))) (hy : ev e y = some (.int .i64 (b : Int))) (hb : b ≤ 64) : Ev P o e S M (.int .i64 ((a / 2 ^ b : Nat) : Int)) := by
  have := Ev.shr (P := P) (S := S) (M := M) ho hx hy (by omega)
  rwa [show min (b : Int).toNat IntKind.i64.bits = b from Nat.min_eq_left hb, fdiv_pow] at this
theorem Ev.orU {t yt : Nat} {x y : Operand} {a b : Nat} (c : Nat) (ho : o.op = .binOp .or t x y yt) (hx : ev e x = some (.int .u32 (a : Int))) (hy : ev e y = some (.int .u32 (b : Int))) (ha : a < 4294967296) (hb : b < 4294967296) (h : a ||| b = c) : Ev P o e S M (.int .u32 (c : Int)) := by
  have : pop G.T e o.op = some (.int .u32 (bits .or .u32 a b)) := by simp [ho, pop, hx, hy, intPop]
  have := pop_run (P := P) (S := S) (M := M) this
  rwa [u32_or_nat a b ha hb, h] at this
theorem Ev.andU {t yt : Nat} {x y : Operand} {a b : Nat} (c : Nat) (ho : o.op = .binOp .and t x y yt) (hx : ev e x = some (.int .u32 (a : Int))) (hy : ev e y = some (.int .u32 (b : Int))) (ha : a < 4294967296) (hb : b < 4294967296) (h : a &&& b = c) : Ev P o e S M (.int .u32 (c : Int)) := by
  have : pop G.T e o.op = some (.int .u32 (bits .and .u32 a b)) := by simp [ho, pop, hx, hy, intPop]
  have := pop_run (P := P) (S := S) (M := M) this
  rwa [u32_and_nat a b ha hb, h] at this
omit G in
/-- Whatever is a number's own value. -/
theorem Ev.asN {k : IntKind} {n : Int} (m : Nat) (h : Ev P o e S M (.int k n)) (hn : n = m) : Ev P o e S M (.int k (m : Int)) := hn ▸ h

theorem Ev.u32 {n : Int} (hv : arP G.T e o.op = some (.u32, n)) (hr : 0 ≤ n ∧ n ≤ 4294967295) : Ev P o e S M (.int .u32 n) := by
  have := pop_run (P := P) (S := S) (M := M) (arP_pop hv)
  rwa [IntKind.wrap_u32, Int.emod_eq_of_lt hr.1 (by omega)] at this
theorem Ev.u8 {n : Int} (hv : arP G.T e o.op = some (.u8, n)) (hr : 0 ≤ n ∧ n ≤ 255) : Ev P o e S M (.int .u8 n) := by
  have := pop_run (P := P) (S := S) (M := M) (arP_pop hv)
  rwa [IntKind.wrap_u8, Int.emod_eq_of_lt hr.1 (by omega)] at this
/-- A number cut down to a byte. -/
theorem Ev.toByte {src dst : Nat} {x : Operand} {ts td : TD} {k : IntKind} {n : Nat} (ho : o.op = .convert src dst x) (hs : tlook G.T src = some ts) (hss : ts.desc = .int k) (hdt : tlook G.T dst = some td) (hdd : td.desc = .int .u8) (hx : ev e x = some (.int k (n : Int))) :
    Ev P o e S M (.int .u8 ((UInt8.ofNat n).toNat : Int)) := by
  have : pop G.T e o.op = some (.int .u8 (IntKind.u8.wrap n)) := by
    obtain ⟨d1, b1, z1, y1⟩ := ts
    obtain ⟨d2, b2, z2, y2⟩ := td
    simp only at hss hdd
    subst hss hdd
    simp [ho, pop, hs, hdt, hx]
  have := pop_run (P := P) (S := S) (M := M) this
  rwa [IntKind.wrap_u8, show (n : Int) % 256 = ((UInt8.ofNat n).toNat : Int) by simp] at this
theorem Ev.maxN {at_ : Array Nat} {x y : Operand} {a b : Nat} {k : IntKind} (ho : o.op = .call { callee := .builtin .max, args := #[x, y], argTypes := at_ }) (hx : ev e x = some (.int k (a : Int))) (hy : ev e y = some (.int k (b : Int))) : Ev P o e S M (.int k ((max a b : Nat) : Int)) := by
  have : pop G.T e o.op = some (.int k (if (b : Int) > a then b else a)) := by simp [ho, pop, hx, hy]
  rw [show (if (b : Int) > a then (b : Int) else a) = ((max a b : Nat) : Int) by split <;> omega] at this
  exact pop_run this
theorem Ev.minN {at_ : Array Nat} {x y : Operand} {a b : Nat} {k : IntKind} (ho : o.op = .call { callee := .builtin .min, args := #[x, y], argTypes := at_ }) (hx : ev e x = some (.int k (a : Int))) (hy : ev e y = some (.int k (b : Int))) : Ev P o e S M (.int k ((min a b : Nat) : Int)) := by
  have : pop G.T e o.op = some (.int k (if (b : Int) < a then b else a)) := by simp [ho, pop, hx, hy]
  rw [show (if (b : Int) < a then (b : Int) else a) = ((min a b : Nat) : Int) by split <;> omega] at this
  exact pop_run this

/-! ### Regions in which either of two may come up -/
omit G in
def RDi (P : Program) (fn : Func) (N : Nat) (Rf : Ending → World → Prop) (w0 : World) (X : List Nat) (M0 : Mem) (k : List It) (ops : Array Oper) (F : List Own) (Mf : Mem) (fuel : Nat) (listed : Array Bool) (i : Nat) (e : Env) (S : List Own) (M : Mem) : Prop :=
  ∀ a w, Fits N e a → St w0 X M0 S M w → Rd F Mf w → wpOp P ops (wpT P fn Rf k) i (fun a' w' => Rd F Mf w' ∧ wpAnyH P .any ops (wpT P fn Rf k) (Rd F Mf) fuel (listed.setIfInBounds i true) a' w') a w
section
variable {F : List Own} {Mf : Mem} {fuel : Nat} {listed : Array Bool}
omit G in
theorem RD.two (i j : Nat) (h3 : Region.ready .any ops listed = [i, j]) (hi : RDi P fn N Rf w0 X M0 k ops F Mf fuel listed i e S M) (hj : RDi P fn N Rf w0 X M0 k ops F Mf fuel listed j e S M) : RD P fn N Rf w0 X M0 k ops F Mf (fuel + 1) listed e S M := by
  unfold RD
  intro a w hf hs hr
  refine wpAnyH_all h3 (by simp) fun m hm => ?_
  simp only [List.mem_cons, List.not_mem_nil, or_false] at hm
  rcases hm with rfl | rfl
  · exact hi a w hf hs hr
  · exact hj a w hf hs hr
omit G in
theorem RD.last (j : Nat) {l : Array Bool} (h : RD P fn N Rf w0 X M0 k ops F Mf fuel (l.setIfInBounds j true) e S M) : RD P fn N Rf w0 X M0 k ops F Mf fuel (l.setIfInBounds j true) e S M := h
omit G in
theorem RDi.o1 (i : Nat) {v : Value} {oi : Oper} (hi : ops[i]? = some oi) (hg : Wt ops e oi) (hd : oi.dst = some d) (hN : Nat.blt d N = true) (hv : Ev P oi e S M v)
    (h : RD P fn N Rf w0 X M0 k ops F Mf fuel (listed.setIfInBounds i true) ((d, v) :: e) S M) : RDi P fn N Rf w0 X M0 k ops F Mf fuel listed i e S M := by
  unfold RD at h
  intro a w hf hs hr
  unfold wpOp
  simp only [hi, hg.wanted hf, if_true]
  refine .inl ?_
  unfold Oper.wp
  rw [hv N a w hf hs.rd, Oper.upon_value, hd]
  exact ⟨hr, h _ w (hf.put hN v) hs hr⟩
omit G in
theorem RDi.o2 (i : Nat) {post : Env → List Own → Mem → Prop} {oi : Oper} (hi : ops[i]? = some oi) (hg : Wt ops e oi) (ho : OpW P N w0 X M0 oi e S M post)
    (h : ∀ e' S' M', post e' S' M' → F.Sublist S' ∧ Mle Mf M' ∧ RD P fn N Rf w0 X M0 k ops F Mf fuel (listed.setIfInBounds i true) e' S' M') : RDi P fn N Rf w0 X M0 k ops F Mf fuel listed i e S M := by
  unfold RD at h
  intro a w hf hs hr
  unfold wpOp
  simp only [hi, hg.wanted hf, if_true]
  refine .inl (ho a w _ _ hf hs fun e' S' M' a' w' hp hf' hs' => ?_)
  obtain ⟨hF, hM, hrd⟩ := h e' S' M' hp
  have hr' : Rd F Mf w' := hs'.rd.sub (fun o ho => hF.subset ho) hM
  exact ⟨hr', hrd a' w' hf' hs' hr'⟩
theorem RDi.bs (i : Nat) {t el len : Nat} {td de : TD} {parts : Array (Nat × Operand)} {cs : List Value} {oi : Oper} (hi : ops[i]? = some oi) (hg : Wt ops e oi) (hd : oi.dst = some d) (hN : Nat.blt d N = true) (ho : oi.op = .buildSlice t len parts) (ht : tlook G.T t = some td) (hdd : td.desc = .slice el) (he : tlook G.T el = some de)
    (hb : evParts parts.toList e (fun ps => buildSK G.T el len ps) = some (.agg cs.toArray)) (hF : F.Sublist S) (hM : Mle Mf M) (h : ∀ g, RD P fn N Rf w0 X M0 k ops F Mf fuel (listed.setIfInBounds i true) ((d, rowV (some g) len len) :: e) (.row (some g) len el de.size len cs :: S) M) : RDi P fn N Rf w0 X M0 k ops F Mf fuel listed i e S M :=
  RDi.o2 i hi hg (OpW.buildSlice ho hd hN ht hdd he hb) (by rintro _ _ _ ⟨g, rfl, rfl, rfl⟩; exact ⟨hF.cons _, hM, h g⟩)
theorem RDi.al (i : Nat) {t : Nat} {td : TD} {cs : List Value} {oi : Oper} (hi : ops[i]? = some oi) (hg : Wt ops e oi) (hd : oi.dst = some d) (hN : Nat.blt d N = true) (ho : oi.op = .alloc t) (ht : tlook G.T t = some td) (hz : td.zero.cells = cs.toArray) (hF : F.Sublist S) (hM : Mle Mf M)
    (h : ∀ b, RD P fn N Rf w0 X M0 k ops F Mf fuel (listed.setIfInBounds i true) ((d, .pointer (some ⟨b, 0, none⟩)) :: e) (.box b cs t :: S) M) : RDi P fn N Rf w0 X M0 k ops F Mf fuel listed i e S M :=
  RDi.o2 i hi hg (OpW.alloc ho hd hN ht hz) (by rintro _ _ _ ⟨b, rfl, rfl, rfl⟩; exact ⟨hF.cons _, hM, h b⟩)
omit G in
theorem RDi.cv (i : Nat) {g : FuncId} {c : Call} {f : Operand} {args : List Operand} {vs cap : List Value} {v0 : Value} {oi : Oper} (hcall : ∀ args w, (callFunc g args).run P w = .ok (.enter g args) w)
    (hi : ops[i]? = some oi) (hg : Wt ops e oi) (hd : oi.dst = some d) (hN : Nat.blt d N = true) (ho : oi.op = .call c) (hc : c.callee = .value f) (ha : c.args = args.toArray)
    (hf : ev e f = some (.func (.func g) #[] cap.toArray)) (hargs : evK args e (fun l => some (Value.agg l.toArray)) = some (.agg vs.toArray)) (hfn : Fv P g (vs ++ cap) M v0) (hF : F.Sublist S) (hM : Mle Mf M)
    (h : RD P fn N Rf w0 X M0 k ops F Mf fuel (listed.setIfInBounds i true) ((d, v0) :: e) S M) : RDi P fn N Rf w0 X M0 k ops F Mf fuel listed i e S M :=
  RDi.o2 i hi hg (OpW.call ho hc ha hd hN hcall hf hargs (Sin := []) (Sr := S) rfl hfn) (by rintro _ _ _ ⟨v, Sout, rfl, rfl, hm, rfl, rfl, rfl⟩; exact ⟨hF, hM, h⟩)
end
omit G in
theorem R.addnil (el size : Nat) (h : R P fn N Rf w0 X M0 k e (.row none 0 el size 0 [] :: S) M) : R P fn N Rf w0 X M0 k e S M := by
  intro a w hf hs
  refine h a w hf { hs with rd := ⟨fun o ho => ?_, hs.rd.mem⟩, disj := List.pairwise_cons.2 ⟨(fun o ho b hb => by cases hb), hs.disj⟩, sep := fun o ho b hb => ?_, new := fun o ho b hb => ?_ }
  · rcases List.mem_cons.1 ho with rfl | ho
    · exact World.ownsRow_nil w 0 el size
    · exact hs.rd.own o ho
  · rcases List.mem_cons.1 ho with rfl | ho
    · cases hb
    · exact hs.sep o ho b hb
  · rcases List.mem_cons.1 ho with rfl | ho
    · cases hb
    · exact hs.new o ho b hb
omit G in
theorem WL.freezeBox {l : List Oper} {b tb : Nat} {cs : List Value} {S' : List Own} (hu : Pull S (.box b cs tb) S') (h : ∀ M', Mle M M' → Cells M' b 0 cs → WL P fn N Rf w0 X M0 k ops l e S' M') : WL P fn N Rf w0 X M0 k ops l e S M := by
  intro a w hf hs
  have h' : R P fn N (fun _ _ => True) w0 X M0 [] e S M → True := fun _ => trivial
  have hs' := hs.perm hu.perm
  obtain ⟨M', hm, hb, hst⟩ := hs'.freeze
  have hrow : w.heap[b]? = some (.cells cs.toArray tb (0, 0)) := hs'.rd.own _ List.mem_cons_self
  refine h M' hm ?_ a w hf hst
  intro i v hi
  have := hb b rfl
  simp only [cellM, this, hrow, Nat.zero_add]
  simpa using hi

/-! ### Rows made shorter -/
omit G in
theorem St.shrink {w : World} {ao : Option Nat} {cap el size n m : Nat} {xs : List Value} {S' : List Own} (hu : Upd S (.row ao cap el size n xs) (.row ao cap el size m (xs.take (m * size))) S') (hm : m ≤ n) (hs : St w0 X M0 S M w) : St w0 X M0 S' M w := by
  obtain ⟨T, hp1, hp2⟩ := hu.perm
  have h1 := hs.perm hp1
  refine St.perm (S := .row ao cap el size m (xs.take (m * size)) :: T) ?_ hp2
  have hrow : w.ownsRow 0 el size (rowV ao n cap) n xs := h1.rd.own _ List.mem_cons_self
  refine { h1 with rd := ⟨fun o ho => ?_, h1.rd.mem⟩, disj := List.pairwise_cons.2 ⟨fun o ho b hb => (List.pairwise_cons.1 h1.disj).1 o ho b hb, (List.pairwise_cons.1 h1.disj).2⟩, sep := fun o ho b hb => ?_, new := fun o ho b hb => ?_ }
  · rcases List.mem_cons.1 ho with rfl | ho
    · have hmn : m * size ≤ n * size := Nat.mul_le_mul_right _ hm
      refine ⟨by rw [List.length_take, hrow.1]; omega, ?_⟩
      rcases hrow.2 with ⟨h0, hn0⟩ | ⟨g, cap', cur, hv, hz, hh, hnc, hcm, hcs, htake⟩
      · cases ao with
        | none =>
          simp [rowV] at h0
          refine .inl ⟨?_, by omega⟩
          simp [rowV]
          omega
        | some g => simp [rowV] at h0
      · cases ao with
        | none => simp [rowV] at hv
        | some g' =>
          simp [rowV] at hv
          obtain ⟨rfl, rfl⟩ := hv
          refine .inr ⟨g', cap, cur, rfl, hz, hh, by omega, hcm, hcs, ?_⟩
          rw [← htake, List.take_take, Nat.min_eq_left hmn]
    · exact h1.rd.own o (List.mem_cons_of_mem _ ho)
  · rcases List.mem_cons.1 ho with rfl | ho
    · exact h1.sep _ List.mem_cons_self b hb
    · exact h1.sep o (List.mem_cons_of_mem _ ho) b hb
  · rcases List.mem_cons.1 ho with rfl | ho
    · exact h1.new _ List.mem_cons_self b hb
    · exact h1.new o (List.mem_cons_of_mem _ ho) b hb
omit G in
theorem R.shrink {ao : Option Nat} {cap el size n : Nat} (m : Nat) {xs : List Value} {S' : List Own} (hu : Upd S (.row ao cap el size n xs) (.row ao cap el size m (xs.take (m * size))) S') (hm : m ≤ n) (h : R P fn N Rf w0 X M0 k e S' M) : R P fn N Rf w0 X M0 k e S M :=
  fun a w hf hs => h a w hf (hs.shrink hu hm)
omit G in
theorem WL.shrink {l : List Oper} {ao : Option Nat} {cap el size n : Nat} (m : Nat) {xs : List Value} {S' : List Own} (hu : Upd S (.row ao cap el size n xs) (.row ao cap el size m (xs.take (m * size))) S') (hm : m ≤ n) (h : WL P fn N Rf w0 X M0 k ops l e S' M) : WL P fn N Rf w0 X M0 k ops l e S M :=
  fun a w hf hs => h a w hf (hs.shrink hu hm)

/-! ### Parts of slices -/
omit G in
theorem SlM.cut {ao : Option Addr} {n cap size : Nat} {xs : List Value} (h : SlM M ao n cap xs) {l hh m : Nat} (h1 : l ≤ hh) (h2 : hh ≤ m) (h3 : m ≤ cap) : SlM M (if m = l then ao else ao.map (·.add (l * size))) (hh - l) (m - l) ((xs.drop (l * size)).take ((hh - l) * size)) := by
  refine ⟨by omega, fun hn => ?_, fun a ha hx => ?_⟩
  · have h4 : ao = none := by
      split at hn
      · exact hn
      · cases ao with
        | none => rfl
        | some a => cases hn
    have := (h.2.1 h4).2
    omega
  · split at ha
    · exfalso
      rw [show hh - l = 0 by omega] at hx
      simp at hx
      omega
    · cases ao with
      | none => cases ha
      | some b =>
        obtain ⟨h4, h5⟩ := h.2.2 b rfl (.inl (by omega))
        obtain ⟨bb, bo, bs⟩ := b
        simp only at h4 h5
        subst h4
        cases ha
        dsimp only
        rw [Addr.add_lit]
        refine ⟨rfl, fun i v hi => ?_⟩
        show cellM M bb (bo + l * size + i) = some v
        rw [Nat.add_assoc]
        refine h5 _ v ?_
        rw [List.getElem?_take] at hi
        split at hi
        · rwa [List.getElem?_drop] at hi
        · cases hi
theorem Ev.sliceTo {t el : Nat} {td de : TD} {x z : Operand} {b : Option Addr} {len cap h : Nat} {kk : IntKind} (ho : o.op = .slice t x none (some z) none) (ht : tlook G.T t = some td) (hd : td.desc = .slice el) (he : tlook G.T el = some de) (hx : ev e x = some (.slice b len cap))
    (hz : ev e z = some (.int kk (h : Int))) (hh : h ≤ cap) : Ev P o e S M (.slice b h cap) := by
  refine Ev.slice (l := 0) (m := cap) ho ht hd he hx rfl ⟨kk, hz, hh⟩ rfl ?_
  have : b.map (·.add (0 * de.size)) = b := by cases b <;> simp [Addr.add]
  rw [this]
  simp
theorem WL.slTo {t el : Nat} {td de : TD} {x z : Operand} {b : Option Addr} {len cap : Nat} (h : Nat) {kk : IntKind} (hg : o.guard = none) (hd : o.dst = some d) (hN : Nat.blt d N = true) (ho : o.op = .slice t x none (some z) none) (ht : tlook G.T t = some td) (hdd : td.desc = .slice el) (he : tlook G.T el = some de) (hx : ev e x = some (.slice b len cap))
    (hz : ev e z = some (.int kk (h : Int))) (hh : h ≤ cap) (hn : WL P fn N Rf w0 X M0 k ops rest ((d, .slice b h cap) :: e) S M) : WL P fn N Rf w0 X M0 k ops (o :: rest) e S M :=
  WL.step hg hd hN (Ev.sliceTo ho ht hdd he hx hz hh) hn
theorem Ev.cut {t el : Nat} {td de : TD} {x z y : Operand} {b : Option Addr} {len cap l h : Nat} {kk ky : IntKind} (ho : o.op = .slice t x (some z) (some y) none) (ht : tlook G.T t = some td) (hd : td.desc = .slice el) (he : tlook G.T el = some de) (hx : ev e x = some (.slice b len cap))
    (hz : ev e z = some (.int kk (l : Int))) (hy : ev e y = some (.int ky (h : Int))) (hh : h ≤ cap) (hl : l ≤ h) : Ev P o e S M (.slice (if cap = l then b else b.map (·.add (l * de.size))) (h - l) (cap - l)) :=
  Ev.slice (l := l) (m := cap) ho ht hd he hx rfl ⟨ky, hy, hh⟩ ⟨kk, hz, hl⟩ rfl
theorem Ev.sliceFrom {t el : Nat} {td de : TD} {x z : Operand} {b : Option Addr} {len cap l : Nat} {kk : IntKind} (ho : o.op = .slice t x (some z) none none) (ht : tlook G.T t = some td) (hd : td.desc = .slice el) (he : tlook G.T el = some de) (hx : ev e x = some (.slice b len cap))
    (hz : ev e z = some (.int kk (l : Int))) (hl : l ≤ len) : Ev P o e S M (.slice (if cap = l then b else b.map (·.add (l * de.size))) (len - l) (cap - l)) :=
  Ev.slice (l := l) (m := cap) (h := len) ho ht hd he hx rfl ⟨rfl, rfl⟩ ⟨kk, hz, hl⟩ rfl

/-! ### Strings out of bytes -/
def strV (l : List UInt8) : Value := .string ⟨l.toArray⟩
theorem foldl_push (l : List UInt8) : ∀ (s : ByteArray), (l.map fun b => (b.toNat : Int)).foldl (fun r n => r.push (UInt8.ofNat n.toNat)) s = ⟨s.data ++ l.toArray⟩ := by
  induction l with
  | nil => intro s; simp
  | cons b l ih =>
    intro s
    simp only [List.map_cons, List.foldl_cons]
    rw [ih]
    simp [ByteArray.push]
theorem toList_loop (a : ByteArray) : ∀ (n i : Nat) (r : List UInt8), a.size - i = n → ByteArray.toList.loop a i r = r.reverse ++ a.data.toList.drop i := by
  intro n
  induction n with
  | zero =>
    intro i r h
    rw [ByteArray.toList.loop, if_neg (by omega)]
    rw [List.drop_eq_nil_of_le (by rw [Array.length_toList]; have h5 : a.data.size = a.size := rfl; omega)]
    simp
  | succ n ih =>
    intro i r h
    have h2 : i < a.size := by omega
    rw [ByteArray.toList.loop, if_pos h2, ih (i + 1) _ (by omega)]
    have h3 : i < a.data.toList.length := by rw [Array.length_toList]; exact h2
    rw [List.drop_eq_getElem_cons h3]
    have h4 : i < a.data.size := h2
    simp [ByteArray.get!, getElem!_pos a.data i h4]
theorem toList_mk (l : List UInt8) : (ByteArray.mk l.toArray).toList = l := by
  unfold ByteArray.toList
  rw [toList_loop _ _ 0 [] rfl]
  simp
theorem Ev.toStr {src dst : Nat} {x : Operand} {ts td te : TD} {el : Nat} {ao : Option Addr} {n cap : Nat} {l : List UInt8} (ho : o.op = .convert src dst x) (hs : tlook G.T src = some ts) (hss : ts.desc = .slice el) (he : tlook G.T el = some te) (hee : te.desc = .int .u8) (hdt : tlook G.T dst = some td) (hdd : td.desc = .string)
    (hx : ev e x = some (.slice ao n cap)) (hn : n = l.length) (h0 : ao = none → n = 0) (hM : Src S M ao (u8s l)) : Ev P o e S M (strV l) := by
  intro N a w hf hrd
  have h1 := run_convert_bytes_string (P := P) w src dst el ao n cap (by rw [Prg.under hs, hss]) (by rw [Prg.under he, hee]) (by rw [Prg.under hdt, hdd])
  have h2 : (Conv.bytesToString (.slice ao n cap)).run P w = .ok (strV l) w := by
    cases ao with
    | none =>
      have := h0 rfl
      have hl : l = [] := List.eq_nil_of_length_eq_zero (by omega)
      subst hl
      rfl
    | some ad =>
      have h3 := run_loadCells_list (P := P) w ad (u8s l) (fun j u hj => hM w hrd ad rfl j u hj)
      rw [u8s_length, ← hn] at h3
      have h4 := run_bytesToString (P := P) w ad n cap (l.map fun b => (b.toNat : Int)) (by rw [h3]; simp [u8s])
      rw [h4, foldl_push]
      simp [strV]
  simp only [execOp, ho, hf.eval hx, Sem.run_bind, h1, h2, Result.andThen_ok]
  rfl
theorem WL.str {src dst : Nat} {x : Operand} {ts td te : TD} {el : Nat} {ao : Option Addr} {n cap : Nat} (l : List UInt8) (hg : o.guard = none) (hd : o.dst = some d) (hN : Nat.blt d N = true) (ho : o.op = .convert src dst x) (hs : tlook G.T src = some ts) (hss : ts.desc = .slice el) (he : tlook G.T el = some te) (hee : te.desc = .int .u8) (hdt : tlook G.T dst = some td) (hdd : td.desc = .string)
    (hx : ev e x = some (.slice ao n cap)) (hn : n = l.length) (h0 : ao = none → n = 0) (hM : Src S M ao (u8s l)) (h : WL P fn N Rf w0 X M0 k ops rest ((d, strV l) :: e) S M) : WL P fn N Rf w0 X M0 k ops (o :: rest) e S M :=
  WL.step hg hd hN (Ev.toStr ho hs hss he hee hdt hdd hx hn h0 hM) h
omit G in
theorem Ev.strEq {t yt : Nat} {x y : Operand} {l m : List UInt8} (ho : o.op = .binOp .eql t x y yt) (hx : ev e x = some (strV l)) (hy : ev e y = some (strV m)) : Ev P o e S M (.bool (decide (l = m))) := by
  intro N a w hf hrd
  simp only [execOp, ho, hf.eval hx, hf.eval hy, strV, eqGuard_at_string, binOp_string_eql, Sem.run_bind, Sem.run_pure, Result.andThen_ok, toList_mk]
  rw [show (l == m) = decide (l = m) from by rw [Bool.eq_iff_iff]; simp]
omit G in
theorem Ev.strNe {t yt : Nat} {x y : Operand} {l m : List UInt8} (ho : o.op = .binOp .neq t x y yt) (hx : ev e x = some (strV l)) (hy : ev e y = some (strV m)) : Ev P o e S M (.bool (!decide (l = m))) := by
  intro N a w hf hrd
  simp only [execOp, ho, hf.eval hx, hf.eval hy, strV, eqGuard_at_string, binOp_string_neq, Sem.run_bind, Sem.run_pure, Result.andThen_ok, toList_mk]
  rw [show (l == m) = decide (l = m) from by rw [Bool.eq_iff_iff]; simp]

/-! ### copy -/
theorem OpW.copy {x y : Operand} {t t2 el : Nat} {td de : TD} {g off dl dc sl sc cap el' size n : Nat} {ax : Option Addr} {cs xs : List Value} {S' : List Own} (ho : o.op = .call { callee := .builtin .copy, args := #[x, y], argTypes := #[t, t2] }) (hd : o.dst = some d) (hN : Nat.blt d N = true)
    (ht : tlook G.T t = some td) (hdd : td.desc = .slice el) (he : tlook G.T el = some de) (hds : de.size = 1) (hx : ev e x = some (.slice (some ⟨g, off, none⟩) dl dc)) (hy : ev e y = some (.slice ax sl sc)) (hcs : cs.length = Nat.min sl dl) (hax : ax = none → sl = 0) (hsrc : Src S M ax cs)
    (hfit : off + cs.length ≤ xs.length) (h1 : ∀ u ∈ cs, u.oneCell' = true) (hu : Upd S (.row (some g) cap el' size n xs) (.row (some g) cap el' size n (xs.take off ++ cs ++ xs.drop (off + cs.length))) S') :
    OpW P N w0 X M0 o e S M (fun e' S'' M' => e' = (d, .int .i64 cs.length) :: e ∧ S'' = S' ∧ M' = M) := by
  intro a w K Q hf hs hK
  obtain ⟨i, hi, his, _, _⟩ := Prg.info he
  have hut : P.underlying t = some (.slice el) := by rw [Prg.under ht, hdd]
  have hsz : (P.info? el).map (·.size) = some 1 := by rw [hi]; simp [his, hds]
  have hrow : w.ownsRow 0 el' size (.slice (some ⟨g, 0, none⟩) n cap) n xs := hs.rd.own _ hu.mem
  obtain ⟨hl, hrow2⟩ := hrow
  have done : ∀ w', (Builtin.copy_ #[t, t2] o.type #[.slice (some ⟨g, off, none⟩) dl dc, .slice ax sl sc]).run P w = .ok (.int .i64 cs.length) w' → K (a.put o.dst (.int .i64 cs.length)) w' → o.wp P a w K Q := by
    intro w' hr hk
    unfold Oper.wp
    simp only [execOp, ho, resolve, invoke, builtin, Sem.run_bind, Sem.run_pure, Result.andThen_ok, List.map_toArray, List.map_cons, List.map_nil, hf.eval hx, hf.eval hy, hr]
    exact hk
  rcases hrow2 with ⟨h0, _⟩ | ⟨g', cap', cur, hval, _, hh, hnc, hcm, hcs', htake⟩
  · cases h0
  · cases hval
    have hcl : xs.length ≤ cur.toList.length := by rw [← htake, List.length_take]; omega
    have hput : Fits N ((d, .int .i64 cs.length) :: e) (a.put o.dst (.int .i64 cs.length)) := by rw [hd]; exact hf.put hN _
    by_cases hc0 : cs.length = 0
    · have hnil : cs = [] := List.eq_nil_of_length_eq_zero hc0
      subst hnil
      have hr := run_copy_none (P := P) w t t2 o.type el (some ⟨g, off, none⟩) ax dl dc sl sc hut hsz (by simpa using hcs.symm)
      refine done w hr ?_
      refine hK _ _ _ _ _ ⟨rfl, rfl, rfl⟩ hput ?_
      have hxs : xs.take off ++ [] ++ xs.drop (off + ([] : List Value).length) = xs := by simp
      rw [hxs] at hu
      exact hs.upd hu rfl rfl (hs.rd.own _ hu.mem) rfl rfl rfl (Nat.le_refl _) (fun j _ hj => rfl)
    · have hsome : ∃ ad, ax = some ad := by
        cases ax with
        | none =>
          have := hax rfl
          have h3 : Nat.min sl dl ≤ sl := Nat.min_le_left _ _
          omega
        | some ad => exact ⟨ad, rfl⟩
      obtain ⟨ad, rfl⟩ := hsome
      have hr := run_copy_row (P := P) w t t2 o.type el g off dl dc ad sl sc cur el' cs hut hsz (by simpa using hh) hcs (fun j v hj => hsrc w hs.rd ad rfl j v hj) (by rw [← Array.length_toList]; omega) h1
      refine done _ hr ?_
      have hnew := setRow_heap w g cur ((cur.toList.take off ++ cs ++ cur.toList.drop (off + cs.length)).toArray) el' (0, 0) hh
      have hy2 : (Own.row (some g) cap el' size n (xs.take off ++ cs ++ xs.drop (off + cs.length))).holds (w.setRow g ((cur.toList.take off ++ cs ++ cur.toList.drop (off + cs.length)).toArray)) := by
        have hlen2 : (xs.take off ++ cs ++ xs.drop (off + cs.length)).length = xs.length := by simp; omega
        refine ⟨by rw [hlen2]; exact hl, .inr ⟨g, cap, _, rfl, Nat.zero_le _, hnew, hnc, hcm, ?_, ?_⟩⟩
        · simp only [List.size_toArray, List.length_append, List.length_take, List.length_drop]
          rw [← hcs', ← Array.length_toList]; omega
        · rw [← hl, ← hlen2]
          simp only []
          have : xs = cur.toList.take xs.length := by rw [hl]; exact htake.symm
          have e1 : cur.toList.take off = xs.take off := by rw [this, List.take_take, Nat.min_eq_left (by omega)]
          have e2 : cur.toList.drop (off + cs.length) = xs.drop (off + cs.length) ++ cur.toList.drop xs.length := by
            conv => lhs; rw [← List.take_append_drop xs.length cur.toList, ← this]
            rw [List.drop_append_of_le_length hfit]
          rw [e1, e2, ← List.append_assoc]
          exact List.take_left
      exact hK _ _ _ _ _ ⟨rfl, rfl, rfl⟩ hput (hs.upd hu rfl rfl hy2 rfl rfl rfl (by simp) (fun j _ hj => setRow_other w g j _ hj))
theorem WL.cp {x y : Operand} {t t2 el : Nat} {td de : TD} {g off dl dc sl sc cap el' size n : Nat} {ax : Option Addr} {xs : List Value} {S' : List Own} (cs : List Value) (hg : o.guard = none) (hd : o.dst = some d) (hN : Nat.blt d N = true) (ho : o.op = .call { callee := .builtin .copy, args := #[x, y], argTypes := #[t, t2] })
    (ht : tlook G.T t = some td) (hdd : td.desc = .slice el) (he : tlook G.T el = some de) (hds : de.size = 1) (hx : ev e x = some (.slice (some ⟨g, off, none⟩) dl dc)) (hy : ev e y = some (.slice ax sl sc)) (hcs : cs.length = Nat.min sl dl) (hax : ax = none → sl = 0) (hsrc : Src S M ax cs)
    (hu : Upd S (.row (some g) cap el' size n xs) (.row (some g) cap el' size n (xs.take off ++ cs ++ xs.drop (off + cs.length))) S') (hfit : off + cs.length ≤ xs.length) (h1 : ∀ u ∈ cs, u.oneCell' = true)
    (h : WL P fn N Rf w0 X M0 k ops rest ((d, .int .i64 cs.length) :: e) S' M) : WL P fn N Rf w0 X M0 k ops (o :: rest) e S M :=
  WL.op hg (OpW.copy ho hd hN ht hdd he hds hx hy hcs hax hsrc hfit h1 hu) (by rintro _ _ _ ⟨rfl, rfl, rfl⟩; exact h)
end
end Go.Proofs.Ytaaiimlaklpjpaa
