/- Contracts: levels in memory of one's own; copies of them. No condition. -/
import Derived.Test.YtaaiimlaklpjpaaImgD
namespace Go.Proofs.Ytaaiimlaklpjpaa
open Go
set_option linter.unusedVariables false
set_option linter.unusedSimpArgs false
set_option maxRecDepth 100000
set_option maxHeartbeats 4000000
attribute [local irreducible] WL R Fn Fv

/-- A level in memory of one's own. -/
structure OL where
  W : Int
  H : Int
  g : Option Nat
  cap : Nat
  B : List UInt8
def OL.rl (o : OL) : RL := ⟨o.W, o.H, o.g.map fun g => ⟨g, 0, none⟩, o.cap, o.B⟩
def OL.cells (o : OL) : List Value := [.int .i64 o.W, .int .i64 o.H, rowV o.g o.B.length o.cap]
def OL.own (o : OL) : Own := .row o.g o.cap 5 1 o.B.length (u8s o.B)
def OL.row (o : OL) (M : Mem) : Prop := RowM M o.g o.cap 5 1 o.B.length (u8s o.B)
theorem OL.cells_eq (o : OL) : o.rl.cells = o.cells := rfl
abbrev PL := Int × Int × List UInt8
def OL.p (o : OL) : PL := (o.W, o.H, o.B)
def RL.p (r : RL) : PL := (r.W, r.H, r.B)
def RL.to (r : RL) (g : Option Nat) (c : Nat) : OL := ⟨r.W, r.H, g, c, r.B⟩
theorem OL.rl_p (o : OL) : o.rl.p = o.p := rfl

/-- Levels that were not met before. -/
def Fresh (M0 M : Mem) (ls : List OL) : Prop := (ls.filterMap OL.g).Nodup ∧ ∀ o ∈ ls, o.row M ∧ ∀ b, o.g = some b → M0 b = none
theorem Fresh.nil (M0 M : Mem) : Fresh M0 M [] := ⟨List.nodup_nil, fun o ho => by cases ho⟩
theorem Fresh.mle {M0 M M' : Mem} {ls : List OL} (hm : Mle M M') (h : Fresh M0 M ls) : Fresh M0 M' ls := ⟨h.1, fun o ho => ⟨(h.2 o ho).1.mle hm, (h.2 o ho).2⟩⟩
theorem Fresh.old {M00 M0 M : Mem} {ls : List OL} (hm : Mle M00 M0) (h : Fresh M0 M ls) : Fresh M00 M ls :=
  ⟨h.1, fun o ho => ⟨(h.2 o ho).1, fun b hb => by
    cases hx : M00 b with
    | none => rfl
    | some x => have := hm b x hx; rw [(h.2 o ho).2 b hb] at this; cases this⟩⟩
theorem Fresh.snoc {M0 M M' : Mem} {ls : List OL} {o : OL} (h : Fresh M0 M ls) (h0 : Mle M0 M) (hm : Mle M M') (hr : o.row M') (hn : ∀ b, o.g = some b → M b = none) : Fresh M0 M' (ls ++ [o]) := by
  refine ⟨?_, fun o' ho' => ?_⟩
  · rw [List.filterMap_append]
    refine List.nodup_append.2 ⟨h.1, ?_, fun a ha b hb hab => ?_⟩
    · cases hg : o.g <;> simp [List.filterMap_cons, hg]
    · subst hab
      obtain ⟨o', ho', hg'⟩ := List.mem_filterMap.1 ha
      simp only [List.filterMap_cons, List.filterMap_nil] at hb
      cases hg : o.g with
      | none => rw [hg] at hb; cases hb
      | some c =>
        rw [hg] at hb
        have : a = c := by simpa using hb
        subst this
        have h1 := (h.2 o' ho').1
        unfold OL.row at h1
        rw [hg'] at h1
        exact h1.ne (hn a hg)
  · rcases List.mem_append.1 ho' with ho' | ho'
    · exact ⟨(h.2 o' ho').1.mle hm, (h.2 o' ho').2⟩
    · obtain rfl : o' = o := by simpa using ho'
      exact ⟨hr, fun b hb => by
        cases hx : M0 b with
        | none => rfl
        | some x => have := h0 b x hx; rw [hn b hb] at this; cases this⟩
theorem Fresh.ok {M0 M : Mem} {ls : List OL} (h : Fresh M0 M ls) : ∀ r ∈ ls.map OL.rl, r.ok M := by
  intro r hr
  obtain ⟨o, ho, rfl⟩ := List.mem_map.1 hr
  exact (h.2 o ho).1.sl

/-- What an image is, wherever it lies. -/
structure PI where
  f : Int
  lv : List PL
  ws : Int
  wt : Int
  mn : Int
  mg : Int
def RI.p (x : RI) : PI := ⟨x.f, x.lv.map RL.p, x.ws, x.wt, x.mn, x.mg⟩
/-- An image in memory of its own. -/
def ImgPost (p : PI) (M : Mem) (v : Value) (S' : List Own) (M' : Mem) : Prop :=
  ∃ go gcap ls, v = .agg #[.int .i64 p.f, rowV go ls.length gcap, .int .i64 p.ws, .int .i64 p.wt, .int .i64 p.mn, .int .i64 p.mg] ∧ S' = [.row go gcap 34 3 ls.length (ls.flatMap OL.cells)] ∧ Fresh M M' ls ∧ ls.map OL.p = p.lv

theorem cellsR_one {lv : List RL} : ∀ u ∈ lv.flatMap RL.cells, u.oneCell' = true := by
  intro u hu
  obtain ⟨r, _, h⟩ := List.mem_flatMap.1 hu
  simp only [RL.cells, RL.bytes, List.mem_cons, List.not_mem_nil, or_false] at h
  rcases h with rfl | rfl | rfl <;> rfl
theorem cellsR_len (lv : List RL) : (lv.flatMap RL.cells).length = lv.length * 3 := by
  induction lv with
  | nil => rfl
  | cons a l ih => simp only [List.flatMap_cons, List.length_append, ih, List.length_cons]; simp [RL.cells]; omega
theorem cellsO_map (ls : List OL) : (ls.map OL.rl).flatMap RL.cells = ls.flatMap OL.cells := by
  induction ls with
  | nil => rfl
  | cons a l ih => simp only [List.map_cons, List.flatMap_cons, ih, OL.cells_eq]
theorem cellsO_len (ls : List OL) : (ls.flatMap OL.cells).length = ls.length * 3 := by rw [← cellsO_map, cellsR_len, List.length_map]

theorem cloneB_fn {M : Mem} {ao : Option Addr} {cap : Nat} {B : List UInt8} (hs : SlM M ao B.length cap (u8s B)) (hlen : B.length ≤ 140737488355328) :
    Fn Try.prog 55 [.slice ao B.length cap] [] M fun v S' M' => ∃ g c, v = rowV g B.length c ∧ S' = [.row g c 5 1 B.length (u8s B)] ∧ M' = M := by
  refine Fn.enter (E := [(0, _)]) Try.func55 rfl Try.ntmps55 rfl rfl fun w0 => ?_
  cases ao with
  | none =>
    have h0 := (hs.2.1 rfl).1
    have hB : B = [] := List.eq_nil_of_length_eq_zero h0
    subst hB
    repeat (first | (refine WL.p rfl rfl rfl rfl rfl ?_) | (refine WL.nil ?_) | (refine R.region ?_) | (refine R.seq ?_) | (refine WL.i64 rfl rfl rfl rfl (by omega) ?_) | (refine WL.lb rfl rfl rfl rfl rfl rfl (by repeat constructor) (by rfl) ?_) | (refine WL.yes rfl rfl rfl rfl ?_) | (refine WL.no rfl rfl rfl rfl rfl rfl rfl ?_) | (refine R.block ?_) | (refine R.blk ?_) | (refine R.skip ?_) | (refine R.exit rfl ?_) | (refine R.condT rfl ?_) | (refine R.condF rfl ?_) | (refine R.ret ?_) | (refine WL.al rfl rfl rfl rfl rfl rfl ?_; intro b) | (refine WL.bx rfl rfl rfl rfl rfl rfl ?_; intro b) | (refine WL.sb rfl rfl rfl rfl rfl rfl rfl rfl rfl (by repeat constructor) (by rfl) ?_) | (refine WL.bd rfl rfl rfl rfl rfl ?_) | (refine WL.bs rfl rfl rfl rfl rfl rfl rfl rfl ?_; intro g) | (refine R.scope ?_) | (refine R.label ?_))
    refine R.nilrow 2 5 1 rfl ?_
    exact R.ret1 rfl rfl (List.Sublist.refl _) fun hm => ⟨none, 0, rfl, rfl, rfl⟩
  | some ad =>
    repeat (first | (refine WL.p rfl rfl rfl rfl rfl ?_) | (refine WL.nil ?_) | (refine R.region ?_) | (refine R.seq ?_) | (refine WL.i64 rfl rfl rfl rfl (by omega) ?_) | (refine WL.lb rfl rfl rfl rfl rfl rfl (by repeat constructor) (by rfl) ?_) | (refine WL.yes rfl rfl rfl rfl ?_) | (refine WL.no rfl rfl rfl rfl rfl rfl rfl ?_) | (refine R.block ?_) | (refine R.blk ?_) | (refine R.skip ?_) | (refine R.exit rfl ?_) | (refine R.condT rfl ?_) | (refine R.condF rfl ?_) | (refine R.ret ?_) | (refine WL.al rfl rfl rfl rfl rfl rfl ?_; intro b) | (refine WL.bx rfl rfl rfl rfl rfl rfl ?_; intro b) | (refine WL.sb rfl rfl rfl rfl rfl rfl rfl rfl rfl (by repeat constructor) (by rfl) ?_) | (refine WL.bd rfl rfl rfl rfl rfl ?_) | (refine WL.bs rfl rfl rfl rfl rfl rfl rfl rfl ?_; intro g) | (refine R.scope ?_) | (refine R.label ?_))
    refine WL.app rfl rfl rfl rfl rfl rfl rfl rfl rfl rfl (by repeat constructor) (by intro h; cases h) (Src.ofSl hs) (by show _ = _ * 1; simp) u8s_one (by omega) (by show (0 + _) * 1 ≤ _; omega) ?_
    intro g c _
    repeat (first | (refine WL.p rfl rfl rfl rfl rfl ?_) | (refine WL.nil ?_) | (refine R.region ?_) | (refine R.seq ?_) | (refine WL.i64 rfl rfl rfl rfl (by omega) ?_) | (refine WL.lb rfl rfl rfl rfl rfl rfl (by repeat constructor) (by rfl) ?_) | (refine WL.yes rfl rfl rfl rfl ?_) | (refine WL.no rfl rfl rfl rfl rfl rfl rfl ?_) | (refine R.block ?_) | (refine R.blk ?_) | (refine R.skip ?_) | (refine R.exit rfl ?_) | (refine R.condT rfl ?_) | (refine R.condF rfl ?_) | (refine R.ret ?_) | (refine WL.al rfl rfl rfl rfl rfl rfl ?_; intro b) | (refine WL.bx rfl rfl rfl rfl rfl rfl ?_; intro b) | (refine WL.sb rfl rfl rfl rfl rfl rfl rfl rfl rfl (by repeat constructor) (by rfl) ?_) | (refine WL.bd rfl rfl rfl rfl rfl ?_) | (refine WL.bs rfl rfl rfl rfl rfl rfl rfl rfl ?_; intro g) | (refine R.scope ?_) | (refine R.label ?_))
    refine R.ret1 rfl rfl (List.Sublist.refl _) fun hm => ⟨g, c, ?_, ?_, rfl⟩
    · simp
    · simp only [List.nil_append, Nat.zero_add]; rfl
theorem cloneL_fn {M : Mem} {ao : Option Addr} {cap : Nat} {lv : List RL} (hs : SlM M ao lv.length cap (lv.flatMap RL.cells)) (hlen : lv.length ≤ 1000) :
    Fn Try.prog 54 [.slice ao lv.length cap] [] M fun v S' M' => ∃ g c, v = rowV g lv.length c ∧ S' = [.row g c 34 3 lv.length (lv.flatMap RL.cells)] ∧ M' = M := by
  refine Fn.enter (E := [(0, _)]) Try.func54 rfl Try.ntmps54 rfl rfl fun w0 => ?_
  cases ao with
  | none =>
    have h0 := (hs.2.1 rfl).1
    have hB : lv = [] := List.eq_nil_of_length_eq_zero h0
    subst hB
    repeat (first | (refine WL.p rfl rfl rfl rfl rfl ?_) | (refine WL.nil ?_) | (refine R.region ?_) | (refine R.seq ?_) | (refine WL.i64 rfl rfl rfl rfl (by omega) ?_) | (refine WL.lb rfl rfl rfl rfl rfl rfl (by repeat constructor) (by rfl) ?_) | (refine WL.yes rfl rfl rfl rfl ?_) | (refine WL.no rfl rfl rfl rfl rfl rfl rfl ?_) | (refine R.block ?_) | (refine R.blk ?_) | (refine R.skip ?_) | (refine R.exit rfl ?_) | (refine R.condT rfl ?_) | (refine R.condF rfl ?_) | (refine R.ret ?_) | (refine WL.al rfl rfl rfl rfl rfl rfl ?_; intro b) | (refine WL.bx rfl rfl rfl rfl rfl rfl ?_; intro b) | (refine WL.sb rfl rfl rfl rfl rfl rfl rfl rfl rfl (by repeat constructor) (by rfl) ?_) | (refine WL.bd rfl rfl rfl rfl rfl ?_) | (refine WL.bs rfl rfl rfl rfl rfl rfl rfl rfl ?_; intro g) | (refine R.scope ?_) | (refine R.label ?_))
    refine R.nilrow 2 34 3 rfl ?_
    exact R.ret1 rfl rfl (List.Sublist.refl _) fun hm => ⟨none, 0, rfl, rfl, rfl⟩
  | some ad =>
    repeat (first | (refine WL.p rfl rfl rfl rfl rfl ?_) | (refine WL.nil ?_) | (refine R.region ?_) | (refine R.seq ?_) | (refine WL.i64 rfl rfl rfl rfl (by omega) ?_) | (refine WL.lb rfl rfl rfl rfl rfl rfl (by repeat constructor) (by rfl) ?_) | (refine WL.yes rfl rfl rfl rfl ?_) | (refine WL.no rfl rfl rfl rfl rfl rfl rfl ?_) | (refine R.block ?_) | (refine R.blk ?_) | (refine R.skip ?_) | (refine R.exit rfl ?_) | (refine R.condT rfl ?_) | (refine R.condF rfl ?_) | (refine R.ret ?_) | (refine WL.al rfl rfl rfl rfl rfl rfl ?_; intro b) | (refine WL.bx rfl rfl rfl rfl rfl rfl ?_; intro b) | (refine WL.sb rfl rfl rfl rfl rfl rfl rfl rfl rfl (by repeat constructor) (by rfl) ?_) | (refine WL.bd rfl rfl rfl rfl rfl ?_) | (refine WL.bs rfl rfl rfl rfl rfl rfl rfl rfl ?_; intro g) | (refine R.scope ?_) | (refine R.label ?_))
    refine WL.app rfl rfl rfl rfl rfl rfl rfl rfl rfl rfl (by repeat constructor) (by intro h; cases h) (Src.ofSl hs) (cellsR_len lv) cellsR_one (by omega) (by show (0 + _) * 40 ≤ _; omega) ?_
    intro g c _
    repeat (first | (refine WL.p rfl rfl rfl rfl rfl ?_) | (refine WL.nil ?_) | (refine R.region ?_) | (refine R.seq ?_) | (refine WL.i64 rfl rfl rfl rfl (by omega) ?_) | (refine WL.lb rfl rfl rfl rfl rfl rfl (by repeat constructor) (by rfl) ?_) | (refine WL.yes rfl rfl rfl rfl ?_) | (refine WL.no rfl rfl rfl rfl rfl rfl rfl ?_) | (refine R.block ?_) | (refine R.blk ?_) | (refine R.skip ?_) | (refine R.exit rfl ?_) | (refine R.condT rfl ?_) | (refine R.condF rfl ?_) | (refine R.ret ?_) | (refine WL.al rfl rfl rfl rfl rfl rfl ?_; intro b) | (refine WL.bx rfl rfl rfl rfl rfl rfl ?_; intro b) | (refine WL.sb rfl rfl rfl rfl rfl rfl rfl rfl rfl (by repeat constructor) (by rfl) ?_) | (refine WL.bd rfl rfl rfl rfl rfl ?_) | (refine WL.bs rfl rfl rfl rfl rfl rfl rfl rfl ?_; intro g) | (refine R.scope ?_) | (refine R.label ?_))
    refine R.ret1 rfl rfl (List.Sublist.refl _) fun hm => ⟨g, c, ?_, ?_, rfl⟩
    · simp
    · simp only [List.nil_append, Nat.zero_add]; rfl

theorem sets3 {A B : List Value} {x y z z' : Value} {off : Nat} (h : A.length = off) : setsL (off + 2) [z'] (A ++ ([x, y, z] ++ B)) = A ++ ([x, y, z'] ++ B) := by
  subst h
  show (A ++ ([x, y, z] ++ B)).set (A.length + 2) z' = _
  rw [List.set_append, if_neg (by omega), show A.length + 2 - A.length = 2 by omega]
  rfl

theorem clone_core (f : Int) (ao : Option Addr) (cap : Nat) (lv : List RL) (ws wt mn mg : Int) (M : Mem) (hsl : SlM M ao lv.length cap (lv.flatMap RL.cells)) (hlv : ∀ r ∈ lv, r.ok M) (hlen : lv.length ≤ 1000) (hby : ∀ r ∈ lv, r.B.length ≤ 140737488355328) :
    Fn Try.prog 32 [.agg #[.int .i64 f, .slice ao lv.length cap, .int .i64 ws, .int .i64 wt, .int .i64 mn, .int .i64 mg]] [] M (ImgPost ⟨f, lv.map RL.p, ws, wt, mn, mg⟩ M) := by
  refine Fn.enter (E := [(0, _)]) Try.func32 rfl Try.ntmps32 rfl rfl fun w0 => ?_
  repeat (first | (refine WL.p rfl rfl rfl rfl rfl ?_) | (refine WL.nil ?_) | (refine R.region ?_) | (refine R.seq ?_) | (refine WL.i64 rfl rfl rfl rfl (by omega) ?_) | (refine WL.lb rfl rfl rfl rfl rfl rfl (by repeat constructor) (by rfl) ?_) | (refine WL.yes rfl rfl rfl rfl ?_) | (refine WL.no rfl rfl rfl rfl rfl rfl rfl ?_) | (refine R.block ?_) | (refine R.blk ?_) | (refine R.skip ?_) | (refine R.exit rfl ?_) | (refine R.condT rfl ?_) | (refine R.condF rfl ?_) | (refine R.ret ?_) | (refine WL.al rfl rfl rfl rfl rfl rfl ?_; intro b) | (refine WL.bx rfl rfl rfl rfl rfl rfl ?_; intro b) | (refine WL.sb rfl rfl rfl rfl rfl rfl rfl rfl rfl (by repeat constructor) (by rfl) ?_) | (refine WL.bd rfl rfl rfl rfl rfl ?_) | (refine WL.bs rfl rfl rfl rfl rfl rfl rfl rfl ?_; intro g) | (refine R.scope ?_) | (refine R.label ?_))
  refine WL.call Try.call54 rfl rfl rfl rfl rfl rfl rfl rfl (Sin := []) rfl (cloneL_fn hsl hlen) ?_
  rintro v S1 M1 hm ⟨go, gc, rfl, rfl, rfl⟩
  repeat (first | (refine WL.p rfl rfl rfl rfl rfl ?_) | (refine WL.nil ?_) | (refine R.region ?_) | (refine R.seq ?_) | (refine WL.i64 rfl rfl rfl rfl (by omega) ?_) | (refine WL.lb rfl rfl rfl rfl rfl rfl (by repeat constructor) (by rfl) ?_) | (refine WL.yes rfl rfl rfl rfl ?_) | (refine WL.no rfl rfl rfl rfl rfl rfl rfl ?_) | (refine R.block ?_) | (refine R.blk ?_) | (refine R.skip ?_) | (refine R.exit rfl ?_) | (refine R.condT rfl ?_) | (refine R.condF rfl ?_) | (refine R.ret ?_) | (refine WL.al rfl rfl rfl rfl rfl rfl ?_; intro b) | (refine WL.bx rfl rfl rfl rfl rfl rfl ?_; intro b) | (refine WL.sb rfl rfl rfl rfl rfl rfl rfl rfl rfl (by repeat constructor) (by rfl) ?_) | (refine WL.bd rfl rfl rfl rfl rfl ?_) | (refine WL.bs rfl rfl rfl rfl rfl rfl rfl rfl ?_; intro g) | (refine R.scope ?_) | (refine R.label ?_))
  rename_i b0
  refine R.loop (α := Nat × List OL × Mem) (fun x => [(11, .int .i64 x.1), (10, .int .i64 lv.length), (2, .pointer (some ⟨b, 0, none⟩)), (1, .pointer (some ⟨b0, 0, none⟩))]) (fun x => [.row go gc 34 3 lv.length ((x.2.1.map OL.rl ++ lv.drop x.1).flatMap RL.cells), _, _]) (fun x => x.2.2)
    (fun x => x.2.1.length = x.1 ∧ x.1 ≤ lv.length ∧ Mle M1 x.2.2 ∧ Fresh M1 x.2.2 x.2.1 ∧ x.2.1.map OL.p = (lv.take x.1).map RL.p) (fun x => lv.length - x.1) (0, [], M1) ⟨rfl, Nat.zero_le _, Mle.refl _, Fresh.nil _ _, by simp⟩ (by repeat (first | refine Sub.cons rfl ?_ | exact Sub.nil _)) (List.Sublist.refl _) rfl ?_
  rintro ⟨k, ls, M2⟩ J ⟨hk0, hk, hm2, hfr, hp⟩ again
  simp only at hk0 hk hm2 hfr hp
  dsimp only
  repeat (first | (refine WL.p rfl rfl rfl rfl rfl ?_) | (refine WL.nil ?_) | (refine R.region ?_) | (refine R.seq ?_) | (refine WL.i64 rfl rfl rfl rfl (by omega) ?_) | (refine WL.lb rfl rfl rfl rfl rfl rfl (by repeat constructor) (by rfl) ?_) | (refine WL.yes rfl rfl rfl rfl ?_) | (refine WL.no rfl rfl rfl rfl rfl rfl rfl ?_) | (refine R.block ?_) | (refine R.blk ?_) | (refine R.skip ?_) | (refine R.exit rfl ?_) | (refine R.condT rfl ?_) | (refine R.condF rfl ?_) | (refine R.ret ?_) | (refine WL.al rfl rfl rfl rfl rfl rfl ?_; intro b) | (refine WL.bx rfl rfl rfl rfl rfl rfl ?_; intro b) | (refine WL.sb rfl rfl rfl rfl rfl rfl rfl rfl rfl (by repeat constructor) (by rfl) ?_) | (refine WL.bd rfl rfl rfl rfl rfl ?_) | (refine WL.bs rfl rfl rfl rfl rfl rfl rfl rfl ?_; intro g) | (refine R.scope ?_) | (refine R.label ?_))
  refine R.condP rfl (fun hlt => ?_) (fun hge => ?_)
  · have hlt' : k < lv.length := by omega
    refine R.rowFact (List.Mem.head _) (fun hl hnc hn => ?_)
    have hgo : ∃ g, go = some g := by
      cases go with
      | none => have := hn rfl; omega
      | some g => exact ⟨g, rfl⟩
    obtain ⟨g, rfl⟩ := hgo
    rw [List.drop_eq_getElem_cons hlt', List.flatMap_append, List.flatMap_cons]
    have hA : ((ls.map OL.rl).flatMap RL.cells).length = k * 3 := by rw [cellsR_len, List.length_map, hk0]
    have hmem : lv[k] ∈ lv := List.getElem_mem hlt'
    have hr := (hlv _ hmem).mle hm2
    have hrd : ∀ i u, ([lv[k].bytes] : List Value)[i]? = some u → ((ls.map OL.rl).flatMap RL.cells ++ (lv[k].cells ++ (lv.drop (k + 1)).flatMap RL.cells))[0 + k * 3 + 2 + i]? = some u := by
      intro i u hi
      rw [List.getElem?_append_right (by omega), hA, show 0 + k * 3 + 2 + i - k * 3 = 2 + i by omega]
      cases i with
      | zero => simpa [RL.cells] using hi
      | succ i => simp at hi
    have hfit : 0 + k * 3 + 2 + 1 ≤ ((ls.map OL.rl).flatMap RL.cells ++ (lv[k].cells ++ (lv.drop (k + 1)).flatMap RL.cells)).length := by
      rw [List.length_append, List.length_append, hA]; simp [RL.cells]; omega
    repeat (first | (refine WL.p rfl rfl rfl rfl rfl ?_) | (refine WL.nil ?_) | (refine R.region ?_) | (refine R.seq ?_) | (refine WL.i64 rfl rfl rfl rfl (by omega) ?_) | (refine WL.lb rfl rfl rfl rfl rfl rfl (by repeat constructor) (by rfl) ?_) | (refine WL.yes rfl rfl rfl rfl ?_) | (refine WL.no rfl rfl rfl rfl rfl rfl rfl ?_) | (refine R.block ?_) | (refine R.blk ?_) | (refine R.skip ?_) | (refine R.exit rfl ?_) | (refine R.condT rfl ?_) | (refine R.condF rfl ?_) | (refine R.ret ?_) | (refine WL.al rfl rfl rfl rfl rfl rfl ?_; intro b) | (refine WL.bx rfl rfl rfl rfl rfl rfl ?_; intro b) | (refine WL.sb rfl rfl rfl rfl rfl rfl rfl rfl rfl (by repeat constructor) (by rfl) ?_) | (refine WL.bd rfl rfl rfl rfl rfl ?_) | (refine WL.bs rfl rfl rfl rfl rfl rfl rfl rfl ?_; intro g) | (refine R.scope ?_) | (refine R.label ?_))
    refine R.draw [_, _] (by first | apply List.Sublist.refl | apply List.nil_sublist | apply List.sublist_cons_self | (repeat (first | apply List.Sublist.refl | apply List.nil_sublist | apply List.Sublist.cons_cons | apply List.Sublist.cons))) ?_
    all_goals (refine RD.tk 0 rfl (by kernel_rfl) (by kernel_rfl) (by kernel_rfl) (.no rfl) rfl rfl (by first | exact Ev.i64 rfl (by omega) | exact Ev.index (j := 0 + k * 3) rfl rfl rfl rfl rfl rfl (by omega) (by omega) (by show _ + _ * 3 = _; omega) | exact Ev.p rfl | exact Ev.loadB rfl rfl rfl (by repeat constructor) (by rfl)) ?_)
    all_goals (refine RD.tk 1 rfl (by kernel_rfl) (by kernel_rfl) (by kernel_rfl) (.no rfl) rfl rfl (by first | exact Ev.i64 rfl (by omega) | exact Ev.index (j := 0 + k * 3) rfl rfl rfl rfl rfl rfl (by omega) (by omega) (by show _ + _ * 3 = _; omega) | exact Ev.p rfl | exact Ev.loadB rfl rfl rfl (by repeat constructor) (by rfl)) ?_)
    all_goals (refine RD.tk 2 rfl (by kernel_rfl) (by kernel_rfl) (by kernel_rfl) (.no rfl) rfl rfl (by first | exact Ev.i64 rfl (by omega) | exact Ev.index (j := 0 + k * 3) rfl rfl rfl rfl rfl rfl (by omega) (by omega) (by show _ + _ * 3 = _; omega) | exact Ev.p rfl | exact Ev.loadB rfl rfl rfl (by repeat constructor) (by rfl)) ?_)
    all_goals (refine RD.tk 3 rfl (by kernel_rfl) (by kernel_rfl) (by kernel_rfl) (.no rfl) rfl rfl (by first | exact Ev.i64 rfl (by omega) | exact Ev.index (j := 0 + k * 3) rfl rfl rfl rfl rfl rfl (by omega) (by omega) (by show _ + _ * 3 = _; omega) | exact Ev.p rfl | exact Ev.loadB rfl rfl rfl (by repeat constructor) (by rfl)) ?_)
    all_goals (refine RD.tk 4 rfl (by kernel_rfl) (by kernel_rfl) (by kernel_rfl) (.no rfl) rfl rfl (by first | exact Ev.i64 rfl (by omega) | exact Ev.index (j := 0 + k * 3) rfl rfl rfl rfl rfl rfl (by omega) (by omega) (by show _ + _ * 3 = _; omega) | exact Ev.p rfl | exact Ev.loadB rfl rfl rfl (by repeat constructor) (by rfl)) ?_)
    all_goals (refine RD.tk 5 rfl (by kernel_rfl) (by kernel_rfl) (by kernel_rfl) (.no rfl) rfl rfl (by first | exact Ev.i64 rfl (by omega) | exact Ev.index (j := 0 + k * 3) rfl rfl rfl rfl rfl rfl (by omega) (by omega) (by show _ + _ * 3 = _; omega) | exact Ev.p rfl | exact Ev.loadB rfl rfl rfl (by repeat constructor) (by rfl)) ?_)
    all_goals (refine RD.tk 6 rfl (by kernel_rfl) (by kernel_rfl) (by kernel_rfl) (.no rfl) rfl rfl (by first | exact Ev.i64 rfl (by omega) | exact Ev.index (j := 0 + k * 3) rfl rfl rfl rfl rfl rfl (by omega) (by omega) (by show _ + _ * 3 = _; omega) | exact Ev.p rfl | exact Ev.loadB rfl rfl rfl (by repeat constructor) (by rfl)) ?_)
    all_goals (refine RD.tk 7 rfl (by kernel_rfl) (by kernel_rfl) (by kernel_rfl) (.no rfl) rfl rfl (by first | exact Ev.i64 rfl (by omega) | exact Ev.index (j := 0 + k * 3) rfl rfl rfl rfl rfl rfl (by omega) (by omega) (by show _ + _ * 3 = _; omega) | exact Ev.p rfl | exact Ev.loadB rfl rfl rfl (by repeat constructor) (by rfl)) ?_)
    all_goals (first | (refine RD.o1 8 rfl (by kernel_rfl) (.no rfl) rfl rfl (by first | exact Ev.i64 rfl (by omega) | exact Ev.index (j := 0 + k * 3) rfl rfl rfl rfl rfl rfl (by omega) (by omega) (by show _ + _ * 3 = _; omega) | exact Ev.p rfl | exact Ev.loadB rfl rfl rfl (by repeat constructor) (by rfl)) ?_) | (refine RD.o1 8 rfl (by kernel_rfl) (.no rfl) rfl rfl (Ev.loadR (ys := [lv[k].bytes]) rfl rfl rfl (List.Mem.head _) hrd (by rfl)) ?_))
    all_goals (refine RD.o2 9 rfl (by kernel_rfl) (.no rfl) (OpW.call rfl rfl rfl rfl rfl Try.call55 rfl rfl (Sin := []) (Sr := _) rfl (cloneB_fn hr (hby _ hmem))) ?_; rintro _ _ _ ⟨v, Sout, rfl, rfl, hm3, g3, c3, rfl, rfl, rfl⟩; refine ⟨by simp, Mle.refl _, ?_⟩)
    all_goals (refine RD.tk 10 rfl (by kernel_rfl) (by kernel_rfl) (by kernel_rfl) (.no rfl) rfl rfl (by first | exact Ev.i64 rfl (by omega) | exact Ev.index (j := 0 + k * 3) rfl rfl rfl rfl rfl rfl (by omega) (by omega) (by show _ + _ * 3 = _; omega) | exact Ev.p rfl | exact Ev.loadB rfl rfl rfl (by repeat constructor) (by rfl)) ?_)
    all_goals (refine RD.tk 11 rfl (by kernel_rfl) (by kernel_rfl) (by kernel_rfl) (.no rfl) rfl rfl (by first | exact Ev.i64 rfl (by omega) | exact Ev.index (j := 0 + k * 3) rfl rfl rfl rfl rfl rfl (by omega) (by omega) (by show _ + _ * 3 = _; omega) | exact Ev.p rfl | exact Ev.loadB rfl rfl rfl (by repeat constructor) (by rfl)) ?_)
    all_goals (first | (refine RD.o2 12 rfl (by kernel_rfl) (.no rfl) (OpW.storeR (us := [rowV g3 lv[k].B.length c3]) rfl rfl rfl rfl rfl rfl rfl rfl hfit (by repeat constructor)) ?_; rintro _ _ _ ⟨rfl, rfl, rfl⟩; refine ⟨by simp, Mle.refl _, ?_⟩) | (refine RD.sb 12 rfl (by kernel_rfl) (.no rfl) rfl rfl rfl rfl rfl rfl rfl rfl (by repeat constructor) (by rfl) (by first | apply List.Sublist.refl | apply List.nil_sublist | apply List.sublist_cons_self | (repeat (first | apply List.Sublist.refl | apply List.nil_sublist | apply List.Sublist.cons_cons | apply List.Sublist.cons))) (by first | exact Mle.refl _ | assumption) ?_))
    all_goals (refine RD.done (by kernel_rfl) ?_)
    have hset := sets3 (A := (ls.map OL.rl).flatMap RL.cells) (B := (lv.drop (k + 1)).flatMap RL.cells) (x := .int .i64 lv[k].W) (y := .int .i64 lv[k].H) (z := lv[k].bytes) (z' := rowV g3 lv[k].B.length c3) (off := 0 + k * 3) (by rw [hA]; omega)
    rw [show setsL (0 + k * 3 + 2) [rowV g3 lv[k].B.length c3] ((ls.map OL.rl).flatMap RL.cells ++ (lv[k].cells ++ (lv.drop (k + 1)).flatMap RL.cells)) = ((ls ++ [lv[k].to g3 c3]).map OL.rl ++ lv.drop (k + 1)).flatMap RL.cells from by
      refine hset.trans ?_
      rw [List.map_append, List.flatMap_append, List.flatMap_append]
      rw [List.append_assoc]
      rfl]
    rename_i M2
    refine R.frz Pull.here fun M3 hm4 hrow hnew => ?_
    repeat (first | (refine WL.p rfl rfl rfl rfl rfl ?_) | (refine WL.nil ?_) | (refine R.region ?_) | (refine R.seq ?_) | (refine WL.i64 rfl rfl rfl rfl (by omega) ?_) | (refine WL.lb rfl rfl rfl rfl rfl rfl (by repeat constructor) (by rfl) ?_) | (refine WL.yes rfl rfl rfl rfl ?_) | (refine WL.no rfl rfl rfl rfl rfl rfl rfl ?_) | (refine R.block ?_) | (refine R.blk ?_) | (refine R.skip ?_) | (refine R.exit rfl ?_) | (refine R.condT rfl ?_) | (refine R.condF rfl ?_) | (refine R.ret ?_) | (refine WL.al rfl rfl rfl rfl rfl rfl ?_; intro b) | (refine WL.bx rfl rfl rfl rfl rfl rfl ?_; intro b) | (refine WL.sb rfl rfl rfl rfl rfl rfl rfl rfl rfl (by repeat constructor) (by rfl) ?_) | (refine WL.bd rfl rfl rfl rfl rfl ?_) | (refine WL.bs rfl rfl rfl rfl rfl rfl rfl rfl ?_; intro g) | (refine R.scope ?_) | (refine R.label ?_))
    refine again (k + 1, ls ++ [lv[k].to g3 c3], M3) _ _ _ ⟨by simp; omega, by omega, hm2.trans hm4, hfr.snoc (o := lv[k].to g3 c3) hm2 hm4 hrow hnew, ?_⟩ (by show lv.length - (k + 1) < lv.length - k; omega) (by repeat (first | refine Sub.cons rfl ?_ | exact Sub.nil _)) (List.Sublist.refl _) rfl
    show (ls ++ [lv[k].to g3 c3]).map OL.p = (lv.take (k + 1)).map RL.p
    rw [List.map_append, hp, List.take_succ_eq_append_getElem hlt', List.map_append]
    rfl
  · have hkk : k = lv.length := by omega
    subst hkk
    rw [List.drop_length, List.append_nil, cellsO_map]
    repeat (first | (refine WL.p rfl rfl rfl rfl rfl ?_) | (refine WL.nil ?_) | (refine R.region ?_) | (refine R.seq ?_) | (refine WL.i64 rfl rfl rfl rfl (by omega) ?_) | (refine WL.lb rfl rfl rfl rfl rfl rfl (by repeat constructor) (by rfl) ?_) | (refine WL.yes rfl rfl rfl rfl ?_) | (refine WL.no rfl rfl rfl rfl rfl rfl rfl ?_) | (refine R.block ?_) | (refine R.blk ?_) | (refine R.skip ?_) | (refine R.exit rfl ?_) | (refine R.condT rfl ?_) | (refine R.condF rfl ?_) | (refine R.ret ?_) | (refine WL.al rfl rfl rfl rfl rfl rfl ?_; intro b) | (refine WL.bx rfl rfl rfl rfl rfl rfl ?_; intro b) | (refine WL.sb rfl rfl rfl rfl rfl rfl rfl rfl rfl (by repeat constructor) (by rfl) ?_) | (refine WL.bd rfl rfl rfl rfl rfl ?_) | (refine WL.bs rfl rfl rfl rfl rfl rfl rfl rfl ?_; intro g) | (refine R.scope ?_) | (refine R.label ?_))
    refine R.retC rfl rfl rfl (by repeat constructor) (by rfl) (S2 := [_]) (List.Sublist.cons_cons _ (List.nil_sublist _)) fun hm => ⟨go, gc, ls, ?_, ?_, hfr, ?_⟩
    · rw [hk0]
    · rw [hk0]
    · rw [hp, List.take_length]
end Go.Proofs.Ytaaiimlaklpjpaa
