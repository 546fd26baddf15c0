/- Arguments that are read out of memory: slices, structs, bytes. No condition. -/
import Derived.Test.YtaaiimlaklpjpaaTop
import Derived.Deep.Fields
namespace Go.Proofs.Ytaaiimlaklpjpaa
open Go Go.ChangeShapes Go.WideShapes Go.ChangeAt Go.RowKit Go.Deep
set_option linter.unusedVariables false
set_option linter.unusedSimpArgs false

theorem cellM_of {W : World} {a : Addr} {v : Value} (h : W.cell? a = some v) : a.spot = none ∧ cellM (memOf W) a.block a.off = some v := by
  unfold World.cell? at h
  unfold cellM memOf
  split at h
  · rename_i c t fr hh
    rw [hh]
    split at h
    · cases h
    · rename_i hs
      exact ⟨by cases hsp : a.spot with | none => rfl | some x => rw [hsp] at hs; exact absurd rfl hs, h⟩
  · cases h
theorem add_block (a : Addr) (n : Nat) : (a.add n).block = a.block := by unfold Addr.add; split <;> rfl
theorem add_off (a : Addr) (n : Nat) : (a.add n).off = a.off + n := by unfold Addr.add; split <;> simp_all
/-- The cells of things of one size that lie one behind the other. -/
theorem flatten_get {c : Nat} (hc : 0 < c) : ∀ {L : List (List Value)}, (∀ l ∈ L, l.length = c) → ∀ i, L.flatten[i]? = (L[i / c]?).bind (fun l => l[i % c]?)
  | [], _, i => by simp
  | l :: L, h, i => by
    have hl := h l List.mem_cons_self
    rw [List.flatten_cons, List.getElem?_append, hl]
    by_cases hi : i < c
    · rw [if_pos hi, Nat.div_eq_of_lt hi, Nat.mod_eq_of_lt hi]; rfl
    · rw [if_neg hi, flatten_get hc (fun m hm => h m (List.mem_cons_of_mem _ hm))]
      have e1 : i / c = (i - c) / c + 1 := Nat.div_eq_sub_div hc (by omega)
      have e2 : i % c = (i - c) % c := Nat.mod_eq_sub_mod (by omega)
      rw [e1, e2]
      rfl
theorem flatten_len {c : Nat} : ∀ {L : List (List Value)}, (∀ l ∈ L, l.length = c) → L.flatten.length = L.length * c
  | [], _ => by simp
  | l :: L, h => by
    rw [List.flatten_cons, List.length_append, h l List.mem_cons_self, flatten_len (fun m hm => h m (List.mem_cons_of_mem _ hm)), List.length_cons, Nat.add_mul, Nat.one_mul, Nat.add_comm]

/-- A list of things that are each something. -/
theorem each_is {α β : Type} {Q : α → β → Prop} : ∀ {L : List α}, (∀ l ∈ L, ∃ r, Q l r) → ∃ R : List β, R.length = L.length ∧ ∀ p ∈ L.zip R, Q p.1 p.2
  | [], _ => ⟨[], rfl, fun p hp => by cases hp⟩
  | l :: L, h => by
    obtain ⟨r, hr⟩ := h l List.mem_cons_self
    obtain ⟨R, h1, h2⟩ := each_is (fun m hm => h m (List.mem_cons_of_mem _ hm))
    refine ⟨r :: R, by simp [h1], fun p hp => ?_⟩
    rw [List.zip_cons_cons] at hp
    rcases List.mem_cons.1 hp with rfl | hp
    · exact hr
    · exact h2 p hp
theorem each_map {α β : Type} {f : β → α} {Q : β → Prop} {L : List α} (h : ∀ l ∈ L, ∃ r, l = f r ∧ Q r) : ∃ R : List β, L = R.map f ∧ ∀ r ∈ R, Q r := by
  induction L with
  | nil => exact ⟨[], rfl, fun r hr => by cases hr⟩
  | cons l L ih =>
    obtain ⟨r, hr, hq⟩ := h l List.mem_cons_self
    obtain ⟨R, h1, h2⟩ := ih fun m hm => h m (List.mem_cons_of_mem _ hm)
    refine ⟨r :: R, by rw [hr, h1, List.map_cons], fun x hx => ?_⟩
    rcases List.mem_cons.1 hx with rfl | hx
    · exact hq
    · exact h2 x hx

section
variable {H : Type} {enc : TypeId × Value → H} {P : Program} {w : World} {held : Bool}

def Light (P : Program) (t : TypeId) (d : DataW H) : Prop := (d.weights P t).all (· ≤ reachBytes) = true
theorem weightsAll_mem {e : TypeId} : ∀ {l : List (DataW H)}, (DataW.weightsAll P e l).all (· ≤ reachBytes) = true → ∀ d ∈ l, Light P e d
  | [], _, d, hd => by cases hd
  | a :: l, h, d, hd => by
    rw [DataW.weightsAll, List.all_append, Bool.and_eq_true] at h
    rcases List.mem_cons.1 hd with rfl | hd
    · exact h.1
    · exact weightsAll_mem h.2 d hd
theorem weightsEach_mem : ∀ {ts : List TypeId} {l : List (DataW H)}, (DataW.weightsEach P ts l).all (· ≤ reachBytes) = true → ∀ (i : Nat) (t : TypeId) (d : DataW H), ts[i]? = some t → l[i]? = some d → Light P t d
  | [], l, _, i, t, d, ht, _ => by simp at ht
  | t0 :: ts, [], _, i, t, d, _, hd => by simp at hd
  | t0 :: ts, a :: l, h, i, t, d, ht, hd => by
    rw [DataW.weightsEach, List.all_append, Bool.and_eq_true] at h
    cases i with
    | zero => cases ht; cases hd; exact h.1
    | succ i => exact weightsEach_mem h.2 i t d ht hd

/-- A slice: its elements' cells, each read by itself. -/
theorem open_sl {t e : TypeId} {fuel : Nat} {cs : List Value} {x : DataW H × List MemPlace} (ht : P.underlying t = some (.slice e)) (hc : 0 < P.cellsOf e) (h : DataW.trod enc P w 0 (fun _ => true) held fuel t cs = some x) (hw : Light P t x.1) :
    ∃ (ao : Option Addr) (cap : Nat) (L : List (List Value)), cs = [.slice ao L.length cap] ∧ (∀ l ∈ L, l.length = P.cellsOf e) ∧ SlM (memOf w) ao L.length cap L.flatten ∧ L.length ≤ maxLen ∧ L.length * P.bytesOf e ≤ reachBytes ∧
      ∀ l ∈ L, ∃ (n : Nat) (y : DataW H × List MemPlace), DataW.trod enc P w 0 (fun _ => true) held n e l = some y ∧ Light P e y.1 := by
  rcases open_slice ht h with ⟨rfl, rfl⟩ | ⟨a, len, cap, m, n, D, Pl, rfl, hb, hl, hm, hmm, rfl, hi⟩
  · exact ⟨none, 0, [], rfl, (fun l hl => by cases hl), ⟨Nat.le_refl _, fun _ => ⟨rfl, rfl⟩, fun a ha => by cases ha⟩, Nat.zero_le _, by simp, fun l hl => by cases hl⟩
  · simp only [if_true] at hmm
    subst hmm
    have hch : ∀ i, ∃ l : List Value, i < m → (w.cells? 0 (a.add (i * P.cellsOf e)) (P.cellsOf e) = some l ∧ DataW.trod enc P w 0 (fun _ => true) held n e l = some (D i, Pl i)) := by
      intro i
      by_cases him : i < m
      · obtain ⟨l, h1, h2⟩ := hi i him
        exact ⟨l, fun _ => ⟨h1, h2⟩⟩
      · exact ⟨[], fun h => absurd h him⟩
    obtain ⟨F, hF⟩ := Classical.axiomOfChoice hch
    have hwt := hw
    simp only [Light, DataW.weights, ht, List.all_cons, List.all_append, Bool.and_eq_true, decide_eq_true_eq] at hwt
    obtain ⟨hw1, hw2, _⟩ := hwt
    have hll : ((List.range len).map F).length = len := by simp
    have hlen : ∀ l ∈ (List.range len).map F, l.length = P.cellsOf e := by
      intro l hl'
      obtain ⟨i, hi', rfl⟩ := List.mem_map.1 hl'
      exact (World.cells?_some (hF i (by have := List.mem_range.1 hi'; omega)).1).2.1
    refine ⟨some a, m, (List.range len).map F, by rw [hll], hlen, ⟨by rw [hll]; exact hl, (fun h => by cases h), fun a' ha hx => ?_⟩, by rw [hll]; omega, ?_, ?_⟩
    · cases ha
      have hm0 : 0 < m := by
        rcases hx with hx | hx
        · exact hx
        · rcases Nat.eq_zero_or_pos m with h0 | h0
          · exact absurd (by rw [show len = 0 by omega]; rfl) hx
          · exact h0
      have hcell : ∀ i, i < m → ∀ j v, (F i)[j]? = some v → a.spot = none ∧ cellM (memOf w) a.block (a.off + (i * P.cellsOf e + j)) = some v := by
        intro i him j v hv
        obtain ⟨_, h1, h2⟩ := World.cells?_some (hF i him).1
        have hj : j < P.cellsOf e := by rw [← h1]; exact (List.getElem?_eq_some_iff.1 hv).1
        have h3 := h2 j hj
        rw [hv] at h3
        obtain ⟨h4, h5⟩ := cellM_of h3
        rw [add_block, add_block, add_off, add_off, Nat.add_assoc] at h5
        refine ⟨?_, h5⟩
        have h6 := (World.cells?_some (hF 0 hm0).1).2.2 0 hc
        have h7 := (World.cells?_some (hF 0 hm0).1).2.1
        rw [Nat.zero_mul, List.getElem?_eq_getElem (by omega)] at h6
        exact (cellM_of (a := (a.add 0).add 0) h6).1
      refine ⟨?_, fun i v hv => ?_⟩
      · have h7 := (World.cells?_some (hF 0 hm0).1).2.1
        exact (hcell 0 hm0 0 _ (List.getElem?_eq_getElem (by omega))).1
      · rw [flatten_get hc hlen] at hv
        cases hq : ((List.range len).map F)[i / P.cellsOf e]? with
        | none => rw [hq] at hv; cases hv
        | some l =>
          rw [hq] at hv
          obtain ⟨hlt, hq'⟩ := List.getElem?_eq_some_iff.1 hq
          rw [hll] at hlt
          have hq2 : F (i / P.cellsOf e) = l := by rw [← hq']; simp
          have := (hcell (i / P.cellsOf e) (by omega) (i % P.cellsOf e) v (by rw [hq2]; exact hv)).2
          rwa [Nat.mul_comm, Nat.div_add_mod] at this
    · rw [hll]
      refine Nat.le_trans (Nat.mul_le_mul_right _ ?_) hw1
      simp
    · intro l hl'
      obtain ⟨i, hi', rfl⟩ := List.mem_map.1 hl'
      have hil := List.mem_range.1 hi'
      exact ⟨n, _, (hF i (by omega)).2, weightsAll_mem hw2 _ (List.mem_map.2 ⟨i, hi', rfl⟩)⟩

/-- A struct of fields of one cell each. -/
theorem open_st {t : TypeId} {fs : Array Field} {fuel : Nat} {cs : List Value} {x : DataW H × List MemPlace} (ht : P.underlying t = some (.struct fs)) (hone : oneCellFields P fs = true) (hC : P.cellsOf t = fs.size) (h : DataW.trod enc P w 0 (fun _ => true) held fuel t cs = some x) (hw : Light P t x.1) :
    cs.length = fs.size ∧ ∀ (j : Nat) (f : Field), fs[j]? = some f → ∃ (v : Value) (n : Nat) (y : DataW H × List MemPlace), cs[j]? = some v ∧ DataW.trod enc P w 0 (fun _ => true) held n f.type [v] = some y ∧ Light P f.type y.1 := by
  obtain ⟨ys, n, _, hx, hlen, hyl, hf⟩ := DataW.trod_struct ht h
  rw [hC] at hlen
  subst hx
  refine ⟨hlen, fun j f hj => ?_⟩
  obtain ⟨ho, hk⟩ := hone_of hone j f hj
  have hjl : j < fs.size := (Array.getElem?_eq_some_iff.1 hj).1
  have h1 := hf j f hj
  rw [ho, hk] at h1
  have hone' : (cs.drop j).take 1 = [cs[j]'(by omega)] := by rw [List.drop_eq_getElem_cons (by omega)]; rfl
  rw [hone'] at h1
  have hys : ys[j]? = some (ys[j]'(by omega)) := List.getElem?_eq_getElem (by omega)
  refine ⟨_, n, _, List.getElem?_eq_getElem (by omega), h1.trans hys, ?_⟩
  simp only [Light, DataW.weights, ht] at hw
  refine weightsEach_mem hw j f.type _ (by simp [hj]) (by simp [hys])

theorem u8_flat : ∀ B : List UInt8, (B.map fun b : UInt8 => [Value.int .u8 (b.toNat : Int)]).flatten = u8s B
  | [] => rfl
  | b :: B => by rw [List.map_cons, List.flatten_cons, u8_flat B]; rfl
/-- Bytes. -/
theorem open_by {t e : TypeId} {fuel : Nat} {v : Value} {x : DataW H × List MemPlace} (ht : P.underlying t = some (.slice e)) (he : P.underlying e = some (.int .u8)) (hc : P.cellsOf e = 1) (hb : P.bytesOf e = 1) (h : DataW.trod enc P w 0 (fun _ => true) held fuel t [v] = some x) (hw : Light P t x.1) :
    ∃ (ao : Option Addr) (cap : Nat) (B : List UInt8), v = .slice ao B.length cap ∧ SlM (memOf w) ao B.length cap (u8s B) ∧ B.length ≤ 140737488351232 := by
  obtain ⟨ao, cap, L, hv, _, hs, _, hbd, hel⟩ := open_sl ht (by rw [hc]; exact Nat.one_pos) h hw
  obtain ⟨B, rfl, _⟩ := each_map (L := L) (f := fun b : UInt8 => [Value.int .u8 (b.toNat : Int)]) (Q := fun _ => True) fun l hl => by
    obtain ⟨n, y, hy, _⟩ := hel l hl
    obtain ⟨m, rfl, _, hwf⟩ := DataW.trod_int he hy
    have hr := bounds_u8 hwf
    refine ⟨UInt8.ofNat m.toNat, ?_, trivial⟩
    rw [UInt8.toNat_ofNat']
    congr 2
    omega
  have hfl := u8_flat B
  rw [hfl] at hs
  rw [List.length_map] at hs hv hbd
  rw [hb, Nat.mul_one] at hbd
  refine ⟨ao, cap, B, by injection hv, hs, ?_⟩
  unfold reachBytes at hbd
  omega
theorem open_in {t : TypeId} {k : IntKind} {fuel : Nat} {v : Value} {x : DataW H × List MemPlace} (ht : P.underlying t = some (.int k)) (h : DataW.trod enc P w 0 (fun _ => true) held fuel t [v] = some x) : ∃ n, v = .int k n ∧ (Lit.int k n).wf = true := by
  obtain ⟨n, h1, _, h2⟩ := DataW.trod_int ht h
  exact ⟨n, by injection h1, h2⟩
end
end Go.Proofs.Ytaaiimlaklpjpaa
