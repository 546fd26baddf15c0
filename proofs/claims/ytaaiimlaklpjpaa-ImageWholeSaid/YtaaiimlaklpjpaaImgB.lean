/- Contracts: looking a list of levels through; whether an image may be. No condition. -/
import Derived.Test.YtaaiimlaklpjpaaImgA
namespace Go.Proofs.Ytaaiimlaklpjpaa
open Go
set_option linter.unusedVariables false
set_option linter.unusedSimpArgs false
set_option maxRecDepth 100000
set_option maxHeartbeats 4000000
attribute [local irreducible] WL R Fn Fv

theorem SlM.some {M : Mem} {ao : Option Addr} {n cap : Nat} {xs : List Value} (h : SlM M ao n cap xs) (hn : 0 < n) : ∃ b off, ao = some ⟨b, off, none⟩ ∧ Cells M b off xs := by
  cases ao with
  | none => have := (h.2.1 rfl).1; omega
  | some a =>
    obtain ⟨h1, h2⟩ := h.2.2 a rfl (.inl (Nat.lt_of_lt_of_le hn h.1))
    obtain ⟨b, off, spot⟩ := a
    simp only at h1
    subst h1
    exact ⟨b, off, rfl, h2⟩

/-- A level as it lies in memory. -/
structure RL where
  W : Int
  H : Int
  ao : Option Addr
  cap : Nat
  B : List UInt8
def RL.bytes (r : RL) : Value := .slice r.ao r.B.length r.cap
def RL.cells (r : RL) : List Value := [.int .i64 r.W, .int .i64 r.H, r.bytes]
def RL.val (r : RL) : Value := .agg #[.int .i64 r.W, .int .i64 r.H, .slice r.ao r.B.length r.cap]
def RL.ok (M : Mem) (r : RL) : Prop := SlM M r.ao r.B.length r.cap (u8s r.B)

theorem flatMap_get3 {α : Type} {f : α → List Value} (hf : ∀ a, (f a).length = 3) : ∀ (l : List α) (k j : Nat), (h : k < l.length) → j < 3 → (l.flatMap f)[3 * k + j]? = (f l[k])[j]?
  | a :: l, 0, j, _, hj => by simp [List.getElem?_append, hf, hj]
  | a :: l, k + 1, j, h, hj => by
    have ih := flatMap_get3 hf l k j (by simpa using h) hj
    simp only [List.flatMap_cons, List.getElem?_append, hf, List.getElem_cons_succ]
    rw [if_neg (by omega), ← ih]
    congr 1
    omega
theorem Cells.lvl {M : Mem} {b off : Nat} {lv : List RL} (h : Cells M b off (lv.flatMap RL.cells)) {k : Nat} (hk : k < lv.length) : Cells M b (off + k * 3) lv[k].cells := by
  intro j v hj
  have hj3 : j < 3 := by
    rcases Nat.lt_or_ge j 3 with h' | h'
    · exact h'
    · rw [List.getElem?_eq_none (by simpa [RL.cells] using h')] at hj; cases hj
  have := h (3 * k + j) v (by rw [flatMap_get3 (fun _ => rfl) lv k j hk hj3]; exact hj)
  rwa [show off + (3 * k + j) = off + k * 3 + j by omega] at this

/-- The first place where p holds, or -1. -/
def idxOf (p : RL → Bool) (lv : List RL) : Int := match lv.findIdx? p with | some i => i | none => -1
theorem idxOf_at {p : RL → Bool} {lv : List RL} {k : Nat} (hk : k < lv.length) (h1 : ∀ j, (h : j < k) → p (lv[j]'(by omega)) = false) (h2 : p lv[k] = true) : idxOf p lv = k := by
  have : lv.findIdx? p = some k := by
    rw [List.findIdx?_eq_some_iff_getElem]
    exact ⟨hk, h2, fun j hj => by simpa using h1 j hj⟩
  simp [idxOf, this]
theorem idxOf_none {p : RL → Bool} {lv : List RL} (h1 : ∀ j, (h : j < lv.length) → p lv[j] = false) : idxOf p lv = -1 := by
  have : lv.findIdx? p = none := by
    rw [List.findIdx?_eq_none_iff]
    intro x hx
    obtain ⟨j, hj, rfl⟩ := List.getElem_of_mem hx
    exact h1 j hj
  simp [idxOf, this]

theorem index_fn {M : Mem} {ao : Option Addr} {cap : Nat} {lv : List RL} (hs : SlM M ao lv.length cap (lv.flatMap RL.cells)) (hlen : lv.length ≤ 4611686018427387904) (K : Nat) (caps : List Value) (p : RL → Bool) (hcall : ∀ args w, (callFunc K args).run Try.prog w = .ok (.enter K args) w)
    (hp : ∀ r ∈ lv, Fv Try.prog K ([r.val] ++ caps) M (.bool (p r))) : Fv Try.prog 66 [.slice ao lv.length cap, .func (.func K) #[] caps.toArray] M (.int .i64 (idxOf p lv)) := by
  refine Fv.enter (E := [(0, _), (1, _)]) Try.func66 rfl Try.ntmps66 rfl rfl fun w0 => ?_
  repeat (first | (refine WL.p rfl rfl rfl rfl rfl ?_) | (refine WL.nil ?_) | (refine R.region ?_) | (refine R.seq ?_) | (refine WL.i64 rfl rfl rfl rfl (by omega) ?_) | (refine WL.lb rfl rfl rfl rfl rfl rfl (by repeat constructor) (by rfl) ?_) | (refine WL.yes rfl rfl rfl rfl ?_) | (refine WL.no rfl rfl rfl rfl rfl rfl rfl ?_) | (refine R.block ?_) | (refine R.blk ?_) | (refine R.skip ?_) | (refine R.exit rfl ?_) | (refine R.condT rfl ?_) | (refine R.condF rfl ?_) | (refine R.ret ?_) | (refine WL.al rfl rfl rfl rfl rfl rfl ?_; intro b) | (refine WL.bx rfl rfl rfl rfl rfl rfl ?_; intro b) | (refine WL.sb rfl rfl rfl rfl rfl rfl rfl rfl rfl (by repeat constructor) (by rfl) ?_) | (refine WL.bd rfl rfl rfl rfl rfl ?_) | (refine WL.bs rfl rfl rfl rfl rfl rfl rfl rfl ?_; intro g) | (refine R.scope ?_) | (refine R.label ?_))
  refine R.loop (α := Nat) (fun k => [(0, .slice ao lv.length cap), (1, .func (.func K) #[] caps.toArray), (7, .int .i64 lv.length), (8, .int .i64 k)]) (fun _ => []) (fun _ => M) (fun k => k ≤ lv.length ∧ ∀ j, (h : j < lv.length) → j < k → p lv[j] = false) (fun k => lv.length - k) 0 ⟨Nat.zero_le _, fun j _ h => by omega⟩ (by repeat (first | refine Sub.cons rfl ?_ | exact Sub.nil _)) (by first | apply List.Sublist.refl | apply List.nil_sublist | apply List.sublist_cons_self | (repeat (first | apply List.Sublist.refl | apply List.nil_sublist | apply List.Sublist.cons_cons | apply List.Sublist.cons))) rfl ?_
  rintro k J ⟨hk, hall⟩ again
  repeat (first | (refine WL.p rfl rfl rfl rfl rfl ?_) | (refine WL.nil ?_) | (refine R.region ?_) | (refine R.seq ?_) | (refine WL.i64 rfl rfl rfl rfl (by omega) ?_) | (refine WL.lb rfl rfl rfl rfl rfl rfl (by repeat constructor) (by rfl) ?_) | (refine WL.yes rfl rfl rfl rfl ?_) | (refine WL.no rfl rfl rfl rfl rfl rfl rfl ?_) | (refine R.block ?_) | (refine R.blk ?_) | (refine R.skip ?_) | (refine R.exit rfl ?_) | (refine R.condT rfl ?_) | (refine R.condF rfl ?_) | (refine R.ret ?_) | (refine WL.al rfl rfl rfl rfl rfl rfl ?_; intro b) | (refine WL.bx rfl rfl rfl rfl rfl rfl ?_; intro b) | (refine WL.sb rfl rfl rfl rfl rfl rfl rfl rfl rfl (by repeat constructor) (by rfl) ?_) | (refine WL.bd rfl rfl rfl rfl rfl ?_) | (refine WL.bs rfl rfl rfl rfl rfl rfl rfl rfl ?_; intro g) | (refine R.scope ?_) | (refine R.label ?_))
  refine R.condP rfl (fun hlt => ?_) (fun hge => ?_)
  · have hlt' : k < lv.length := by omega
    obtain ⟨b, off, rfl, hc⟩ := hs.some (by omega)
    have he := hc.lvl hlt'
    repeat (first | (refine WL.p rfl rfl rfl rfl rfl ?_) | (refine WL.nil ?_) | (refine R.region ?_) | (refine R.seq ?_) | (refine WL.i64 rfl rfl rfl rfl (by omega) ?_) | (refine WL.lb rfl rfl rfl rfl rfl rfl (by repeat constructor) (by rfl) ?_) | (refine WL.yes rfl rfl rfl rfl ?_) | (refine WL.no rfl rfl rfl rfl rfl rfl rfl ?_) | (refine R.block ?_) | (refine R.blk ?_) | (refine R.skip ?_) | (refine R.exit rfl ?_) | (refine R.condT rfl ?_) | (refine R.condF rfl ?_) | (refine R.ret ?_) | (refine WL.al rfl rfl rfl rfl rfl rfl ?_; intro b) | (refine WL.bx rfl rfl rfl rfl rfl rfl ?_; intro b) | (refine WL.sb rfl rfl rfl rfl rfl rfl rfl rfl rfl (by repeat constructor) (by rfl) ?_) | (refine WL.bd rfl rfl rfl rfl rfl ?_) | (refine WL.bs rfl rfl rfl rfl rfl rfl rfl rfl ?_; intro g) | (refine R.scope ?_) | (refine R.label ?_))
    refine WL.ix (off + k * 3) rfl rfl rfl rfl rfl rfl rfl rfl rfl (by omega) (by omega) (by simp [td34]) ?_
    refine WL.lm rfl rfl rfl rfl rfl rfl he (by rfl) ?_
    refine WL.cv hcall rfl rfl rfl rfl rfl rfl rfl rfl (hp _ (List.getElem_mem hlt')) ?_
    repeat (first | (refine WL.p rfl rfl rfl rfl rfl ?_) | (refine WL.nil ?_) | (refine R.region ?_) | (refine R.seq ?_) | (refine WL.i64 rfl rfl rfl rfl (by omega) ?_) | (refine WL.lb rfl rfl rfl rfl rfl rfl (by repeat constructor) (by rfl) ?_) | (refine WL.yes rfl rfl rfl rfl ?_) | (refine WL.no rfl rfl rfl rfl rfl rfl rfl ?_) | (refine R.block ?_) | (refine R.blk ?_) | (refine R.skip ?_) | (refine R.exit rfl ?_) | (refine R.condT rfl ?_) | (refine R.condF rfl ?_) | (refine R.ret ?_) | (refine WL.al rfl rfl rfl rfl rfl rfl ?_; intro b) | (refine WL.bx rfl rfl rfl rfl rfl rfl ?_; intro b) | (refine WL.sb rfl rfl rfl rfl rfl rfl rfl rfl rfl (by repeat constructor) (by rfl) ?_) | (refine WL.bd rfl rfl rfl rfl rfl ?_) | (refine WL.bs rfl rfl rfl rfl rfl rfl rfl rfl ?_; intro g) | (refine R.scope ?_) | (refine R.label ?_))
    refine R.cond rfl (fun ht => ?_) (fun hf => ?_)
    · repeat (first | (refine WL.p rfl rfl rfl rfl rfl ?_) | (refine WL.nil ?_) | (refine R.region ?_) | (refine R.seq ?_) | (refine WL.i64 rfl rfl rfl rfl (by omega) ?_) | (refine WL.lb rfl rfl rfl rfl rfl rfl (by repeat constructor) (by rfl) ?_) | (refine WL.yes rfl rfl rfl rfl ?_) | (refine WL.no rfl rfl rfl rfl rfl rfl rfl ?_) | (refine R.block ?_) | (refine R.blk ?_) | (refine R.skip ?_) | (refine R.exit rfl ?_) | (refine R.condT rfl ?_) | (refine R.condF rfl ?_) | (refine R.ret ?_) | (refine WL.al rfl rfl rfl rfl rfl rfl ?_; intro b) | (refine WL.bx rfl rfl rfl rfl rfl rfl ?_; intro b) | (refine WL.sb rfl rfl rfl rfl rfl rfl rfl rfl rfl (by repeat constructor) (by rfl) ?_) | (refine WL.bd rfl rfl rfl rfl rfl ?_) | (refine WL.bs rfl rfl rfl rfl rfl rfl rfl rfl ?_; intro g) | (refine R.scope ?_) | (refine R.label ?_))
      refine R.retV rfl rfl fun _ => ?_
      rw [idxOf_at hlt' (fun j hj => hall j (by omega) hj) ht]
    · repeat (first | (refine WL.p rfl rfl rfl rfl rfl ?_) | (refine WL.nil ?_) | (refine R.region ?_) | (refine R.seq ?_) | (refine WL.i64 rfl rfl rfl rfl (by omega) ?_) | (refine WL.lb rfl rfl rfl rfl rfl rfl (by repeat constructor) (by rfl) ?_) | (refine WL.yes rfl rfl rfl rfl ?_) | (refine WL.no rfl rfl rfl rfl rfl rfl rfl ?_) | (refine R.block ?_) | (refine R.blk ?_) | (refine R.skip ?_) | (refine R.exit rfl ?_) | (refine R.condT rfl ?_) | (refine R.condF rfl ?_) | (refine R.ret ?_) | (refine WL.al rfl rfl rfl rfl rfl rfl ?_; intro b) | (refine WL.bx rfl rfl rfl rfl rfl rfl ?_; intro b) | (refine WL.sb rfl rfl rfl rfl rfl rfl rfl rfl rfl (by repeat constructor) (by rfl) ?_) | (refine WL.bd rfl rfl rfl rfl rfl ?_) | (refine WL.bs rfl rfl rfl rfl rfl rfl rfl rfl ?_; intro g) | (refine R.scope ?_) | (refine R.label ?_))
      refine again (k + 1) _ _ _ ⟨by omega, fun j hj hjk => ?_⟩ (by omega) (by repeat (first | refine Sub.cons rfl ?_ | exact Sub.nil _)) (by first | apply List.Sublist.refl | apply List.nil_sublist | apply List.sublist_cons_self | (repeat (first | apply List.Sublist.refl | apply List.nil_sublist | apply List.Sublist.cons_cons | apply List.Sublist.cons))) rfl
      by_cases hjk' : j = k
      · subst hjk'; exact hf
      · exact hall j hj (by omega)
  · repeat (first | (refine WL.p rfl rfl rfl rfl rfl ?_) | (refine WL.nil ?_) | (refine R.region ?_) | (refine R.seq ?_) | (refine WL.i64 rfl rfl rfl rfl (by omega) ?_) | (refine WL.lb rfl rfl rfl rfl rfl rfl (by repeat constructor) (by rfl) ?_) | (refine WL.yes rfl rfl rfl rfl ?_) | (refine WL.no rfl rfl rfl rfl rfl rfl rfl ?_) | (refine R.block ?_) | (refine R.blk ?_) | (refine R.skip ?_) | (refine R.exit rfl ?_) | (refine R.condT rfl ?_) | (refine R.condF rfl ?_) | (refine R.ret ?_) | (refine WL.al rfl rfl rfl rfl rfl rfl ?_; intro b) | (refine WL.bx rfl rfl rfl rfl rfl rfl ?_; intro b) | (refine WL.sb rfl rfl rfl rfl rfl rfl rfl rfl rfl (by repeat constructor) (by rfl) ?_) | (refine WL.bd rfl rfl rfl rfl rfl ?_) | (refine WL.bs rfl rfl rfl rfl rfl rfl rfl rfl ?_; intro g) | (refine R.scope ?_) | (refine R.label ?_))
    refine R.retV rfl rfl fun _ => ?_
    rw [idxOf_none (fun j hj => hall j hj (by omega))]
end Go.Proofs.Ytaaiimlaklpjpaa
