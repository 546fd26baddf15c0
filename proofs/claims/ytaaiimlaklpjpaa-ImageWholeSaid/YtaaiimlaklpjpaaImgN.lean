/- Contracts: whether what came is right; a new image; a level that is put; whether an image is complete. No condition. -/
import Derived.Test.YtaaiimlaklpjpaaImgM
namespace Go.Proofs.Ytaaiimlaklpjpaa
open Go
set_option linter.unusedVariables false
set_option linter.unusedSimpArgs false
set_option maxRecDepth 100000
set_option maxHeartbeats 4000000
attribute [local irreducible] WL R Fn Fv

/-- An image that does not turn. -/
structure OI.okW (M : Mem) (x : OI) : Prop where
  row : RowM M x.go x.gc 34 3 x.ls.length (x.ls.flatMap OL.cells)
  lv : ∀ o ∈ x.ls, o.row M
theorem OI.ok.w {M : Mem} {x : OI} (h : x.ok M) : x.okW M := ⟨h.row, h.lv⟩
theorem OI.okW.mle {M M' : Mem} {x : OI} (hm : Mle M M') (h : x.okW M) : x.okW M' := ⟨h.row.mle hm, fun o ho => (h.lv o ho).mle hm⟩
theorem OI.okW.src {M : Mem} {x : OI} (h : x.okW M) (S : List Own) : x.src S M where
  row := Src.ofSl h.row.sl
  nil := fun hn => (h.row.2.1 hn).1
  len := h.row.max
  lv := fun o ho => Src.ofSl (h.lv o ho).sl
  none := fun o ho hn => ((h.lv o ho).2.1 hn).1
theorem right_fn (x y z u : OI) (e : Int) (M : Mem) (hy : y.okW M) (hz : z.okW M) (hu : u.okW M) (h1 : x.p = y.p) (h2 : z.p = u.p) :
    Fn Try.prog 14 [x.val, y.val, z.val, u.val, .int .i64 e, .int .i64 e] (x.own :: x.ls.map OL.own) M (fun v S' M' => v = .bool true ∧ S' = []) := by
  have hmem : ∀ o ∈ x.ls, o.own ∈ (x.own :: x.ls.map OL.own) := fun o ho => List.mem_cons_of_mem _ (List.mem_map_of_mem ho)
  refine Fn.enter (E := [(0, _), (1, _), (2, _), (3, _), (4, _), (5, _)]) Try.func14 rfl Try.ntmps14 rfl rfl fun w0 => ?_
  refine R.rowFact (List.Mem.head _) (fun hl hnc hn => ?_)
  refine R.rowMax (List.Mem.head _) (fun hmx => ?_)
  refine R.rowsFact x.ls OL.g OL.cap (fun _ => 5) (fun _ => 1) (fun o => o.B.length) (fun o => u8s o.B) hmem (fun hnl => ?_)
  have hx : x.src (x.own :: x.ls.map OL.own) M :=
    { row := (by
        cases hg : x.go with
        | none => exact Src.nil
        | some g => exact Src.ofRow (cap := x.gc) (el := 34) (size := 3) (n := x.ls.length) (by rw [OI.own, hg]; exact List.Mem.head _))
      nil := fun h => (hn h).1
      len := hmx
      lv := fun o ho => by
        cases hg : o.g with
        | none => exact Src.nil
        | some g => exact Src.ofRow (cap := o.cap) (el := 5) (size := 1) (n := o.B.length) (by have := hmem o ho; rw [OL.own, hg] at this; exact this)
      none := hnl }
  have c1 := rsame_fn x y _ M hx (hy.src _) h1
  have c2 := spoil_fn x M
  have c3 := Fv.of (rsame_fn z u [] M (hz.src _) (hu.src _) h2)
  generalize x.own :: x.ls.map OL.own = Sin at c1 c2 ⊢
  repeat' (first | (refine WL.p rfl rfl rfl rfl rfl ?_) | (refine WL.nil ?_) | (refine R.region ?_) | (refine R.seq ?_) | (refine WL.i64 rfl rfl rfl rfl (by omega) ?_) | (refine WL.lb rfl rfl rfl rfl rfl rfl (by repeat constructor) (by rfl) ?_) | (refine WL.yes rfl rfl rfl rfl ?_) | (refine WL.no rfl rfl rfl rfl rfl rfl rfl ?_) | (refine R.block ?_) | (refine R.blk ?_) | (refine R.skip ?_) | (refine R.exit rfl ?_) | (refine R.condT rfl ?_) | (refine R.condF rfl ?_) | (refine R.ret ?_) | (refine WL.al rfl rfl rfl rfl rfl rfl ?_; intro b) | (refine WL.bx rfl rfl rfl rfl rfl rfl ?_; intro b) | (refine WL.sb rfl rfl rfl rfl rfl rfl rfl rfl rfl (by repeat constructor) (by rfl) ?_) | (refine WL.bd rfl rfl rfl rfl rfl ?_) | (refine WL.bs rfl rfl rfl rfl rfl rfl rfl rfl ?_; intro g) | (refine R.scope ?_) | (refine R.label ?_) | ((refine WL.gdP rfl rfl rfl rfl ?_ ?_) <;> intro hg <;> (try (exfalso; omega))) | ((refine WL.gdN rfl rfl rfl rfl ?_ ?_) <;> intro hg <;> (try (exfalso; omega))) | ((refine WL.gd rfl rfl rfl rfl ?_ ?_) <;> intro hg) | ((refine R.condP rfl ?_ ?_) <;> intro hc <;> (try (exfalso; omega))) | ((refine R.condN rfl ?_ ?_) <;> intro hc <;> (try (exfalso; omega))) | ((refine R.cond rfl ?_ ?_) <;> intro hc))
  refine WL.callE Try.call25 rfl rfl rfl rfl rfl rfl rfl rfl (Sl := [_, _, _, _]) (Sin := Sin) rfl c1 ?_
  rintro v S1 M1 hm ⟨rfl, rfl, rfl⟩
  dsimp only [List.cons_append, List.nil_append]
  repeat' (first | (refine WL.p rfl rfl rfl rfl rfl ?_) | (refine WL.nil ?_) | (refine R.region ?_) | (refine R.seq ?_) | (refine WL.i64 rfl rfl rfl rfl (by omega) ?_) | (refine WL.lb rfl rfl rfl rfl rfl rfl (by repeat constructor) (by rfl) ?_) | (refine WL.yes rfl rfl rfl rfl ?_) | (refine WL.no rfl rfl rfl rfl rfl rfl rfl ?_) | (refine R.block ?_) | (refine R.blk ?_) | (refine R.skip ?_) | (refine R.exit rfl ?_) | (refine R.condT rfl ?_) | (refine R.condF rfl ?_) | (refine R.ret ?_) | (refine WL.al rfl rfl rfl rfl rfl rfl ?_; intro b) | (refine WL.bx rfl rfl rfl rfl rfl rfl ?_; intro b) | (refine WL.sb rfl rfl rfl rfl rfl rfl rfl rfl rfl (by repeat constructor) (by rfl) ?_) | (refine WL.bd rfl rfl rfl rfl rfl ?_) | (refine WL.bs rfl rfl rfl rfl rfl rfl rfl rfl ?_; intro g) | (refine R.scope ?_) | (refine R.label ?_) | ((refine WL.gdP rfl rfl rfl rfl ?_ ?_) <;> intro hg <;> (try (exfalso; omega))) | ((refine WL.gdN rfl rfl rfl rfl ?_ ?_) <;> intro hg <;> (try (exfalso; omega))) | ((refine WL.gd rfl rfl rfl rfl ?_ ?_) <;> intro hg) | ((refine R.condP rfl ?_ ?_) <;> intro hc <;> (try (exfalso; omega))) | ((refine R.condN rfl ?_ ?_) <;> intro hc <;> (try (exfalso; omega))) | ((refine R.cond rfl ?_ ?_) <;> intro hc))
  refine WL.callE Try.call39 rfl rfl rfl rfl rfl rfl rfl rfl (Sl := [_, _, _, _]) (Sin := S1) rfl c2 ?_
  rintro v S2 M2 hm2 ⟨rfl, rfl⟩
  dsimp only [List.cons_append, List.nil_append, List.append_nil]
  repeat' (first | (refine WL.p rfl rfl rfl rfl rfl ?_) | (refine WL.nil ?_) | (refine R.region ?_) | (refine R.seq ?_) | (refine WL.i64 rfl rfl rfl rfl (by omega) ?_) | (refine WL.lb rfl rfl rfl rfl rfl rfl (by repeat constructor) (by rfl) ?_) | (refine WL.yes rfl rfl rfl rfl ?_) | (refine WL.no rfl rfl rfl rfl rfl rfl rfl ?_) | (refine R.block ?_) | (refine R.blk ?_) | (refine R.skip ?_) | (refine R.exit rfl ?_) | (refine R.condT rfl ?_) | (refine R.condF rfl ?_) | (refine R.ret ?_) | (refine WL.al rfl rfl rfl rfl rfl rfl ?_; intro b) | (refine WL.bx rfl rfl rfl rfl rfl rfl ?_; intro b) | (refine WL.sb rfl rfl rfl rfl rfl rfl rfl rfl rfl (by repeat constructor) (by rfl) ?_) | (refine WL.bd rfl rfl rfl rfl rfl ?_) | (refine WL.bs rfl rfl rfl rfl rfl rfl rfl rfl ?_; intro g) | (refine R.scope ?_) | (refine R.label ?_) | (refine WL.cv Try.call25 rfl rfl rfl rfl rfl rfl rfl rfl c3 ?_) | ((refine WL.gdP rfl rfl rfl rfl ?_ ?_) <;> intro hg <;> (try (exfalso; omega))) | ((refine WL.gdN rfl rfl rfl rfl ?_ ?_) <;> intro hg <;> (try (exfalso; omega))) | ((refine WL.gd rfl rfl rfl rfl ?_ ?_) <;> intro hg) | ((refine R.condP rfl ?_ ?_) <;> intro hc <;> (try (exfalso; omega))) | ((refine R.condN rfl ?_ ?_) <;> intro hc <;> (try (exfalso; omega))) | ((refine R.cond rfl ?_ ?_) <;> intro hc))
  exact R.ret1 rfl rfl (List.nil_sublist _) fun _ => ⟨rfl, rfl⟩

/-! ### A new image; a level that is put -/
def newP : PI := ⟨0, [], 1, 1, 3, 2⟩
theorem new_fn (M : Mem) : Fn Try.prog 26 [] [] M (fun v S' M' => v = .agg #[.int .i64 0, .slice none 0 0, .int .i64 1, .int .i64 1, .int .i64 3, .int .i64 2] ∧ S' = [] ∧ M' = M) := by
  refine Fn.enter (E := []) Try.func26 rfl Try.ntmps26 rfl rfl fun w0 => ?_
  repeat' (first | (refine WL.p rfl rfl rfl rfl rfl ?_) | (refine WL.nil ?_) | (refine R.region ?_) | (refine R.seq ?_) | (refine WL.i64 rfl rfl rfl rfl (by omega) ?_) | (refine WL.lb rfl rfl rfl rfl rfl rfl (by repeat constructor) (by rfl) ?_) | (refine WL.yes rfl rfl rfl rfl ?_) | (refine WL.no rfl rfl rfl rfl rfl rfl rfl ?_) | (refine R.block ?_) | (refine R.blk ?_) | (refine R.skip ?_) | (refine R.exit rfl ?_) | (refine R.condT rfl ?_) | (refine R.condF rfl ?_) | (refine R.ret ?_) | (refine WL.al rfl rfl rfl rfl rfl rfl ?_; intro b) | (refine WL.bx rfl rfl rfl rfl rfl rfl ?_; intro b) | (refine WL.sb rfl rfl rfl rfl rfl rfl rfl rfl rfl (by repeat constructor) (by rfl) ?_) | (refine WL.bd rfl rfl rfl rfl rfl ?_) | (refine WL.bs rfl rfl rfl rfl rfl rfl rfl rfl ?_; intro g) | (refine R.scope ?_) | (refine R.label ?_) | ((refine WL.gdP rfl rfl rfl rfl ?_ ?_) <;> intro hg <;> (try (exfalso; omega))) | ((refine WL.gdN rfl rfl rfl rfl ?_ ?_) <;> intro hg <;> (try (exfalso; omega))) | ((refine WL.gd rfl rfl rfl rfl ?_ ?_) <;> intro hg) | ((refine R.condP rfl ?_ ?_) <;> intro hc <;> (try (exfalso; omega))) | ((refine R.condN rfl ?_ ?_) <;> intro hc <;> (try (exfalso; omega))) | ((refine R.cond rfl ?_ ?_) <;> intro hc))
  exact R.retC rfl rfl rfl (by repeat constructor) (by rfl) (List.nil_sublist _) fun _ => ⟨rfl, rfl, rfl⟩

theorem sideB_eq (n : Int) : sideB n = decide (1 ≤ n ∧ n ≤ 64) := by rw [sideB, Bool.decide_and]
theorem side_pn (n : Int) (M : Mem) : Fv Try.prog 41 [.int .i64 n] M (.bool (decide (1 ≤ n ∧ n ≤ 64))) := (side_fn n M).same (by rw [sideB_eq])

theorem Fresh.sub {M0 M : Mem} {ls ls' : List OL} (h : Fresh M0 M ls) (hs : ls'.Sublist ls) : Fresh M0 M ls' := ⟨h.1.sublist (hs.filterMap _), fun o ho => h.2 o (hs.subset ho)⟩
theorem Fresh.perm {M0 M : Mem} {ls ls' : List OL} (h : Fresh M0 M ls) (hs : ls'.Perm ls) : Fresh M0 M ls' := ⟨((hs.filterMap _).nodup_iff).2 h.1, fun o ho => h.2 o (hs.subset ho)⟩
theorem Fresh.set {M0 M M' : Mem} {A C : List OL} {o o' : OL} (h : Fresh M0 M (A ++ o :: C)) (h0 : Mle M0 M) (hm : Mle M M') (hr : o'.row M') (hn : ∀ b, o'.g = some b → M b = none) : Fresh M0 M' (A ++ o' :: C) := by
  have h1 : Fresh M0 M (A ++ C) := h.sub (List.Sublist.append_left (List.sublist_cons_self _ _) _)
  refine (h1.snoc h0 hm hr hn).perm ?_
  exact List.perm_middle.trans (List.perm_append_comm (l₁ := [o']) (l₂ := A ++ C))
theorem set_mid {α : Type} {A C : List α} {o x : α} {n : Nat} (h : A.length = n) : (A ++ o :: C).set n x = A ++ x :: C := by subst h; simp
def zeroOL : OL := ⟨0, 0, none, 0, []⟩
theorem Fresh.zero {M0 M : Mem} {ls : List OL} (h : Fresh M0 M ls) (h0 : Mle M0 M) (n : Nat) : Fresh M0 M (ls ++ List.replicate n zeroOL) := by
  induction n with
  | zero => simpa using h
  | succ n ih =>
    rw [List.replicate_succ', ← List.append_assoc]
    exact ih.snoc h0 (Mle.refl _) (RowM.nil _ _ _) (fun b hb => by cases hb)
theorem zero_p (n : Nat) : (List.replicate n zeroOL).map OL.p = List.replicate n ((0, 0, []) : PL) := by rw [List.map_replicate]; rfl

/-- A level is put. -/
def padL (lv : List PL) (n : Nat) : List PL := lv ++ List.replicate (n - lv.length) (0, 0, [])
def putP (p : PI) (level fmt : Int) (l : PL) : Except Int PI :=
  if rightP p then
    if level < 0 ∨ 7 ≤ level ∨ sizeI fmt = 0 ∨ ¬ (1 ≤ l.1 ∧ l.1 ≤ 64) ∨ ¬ (1 ≤ l.2.1 ∧ l.2.1 ≤ 64) then .error 2
    else if 0 < (l.2.2.length : Int) ∧ (l.2.2.length : Int) ≠ l.1 * l.2.1 * sizeI fmt then .error 7
    else if 0 < level ∧ 0 < (p.lv.length : Int) ∧ fmt ≠ p.f then .error 181
    else .ok { p with f := fmt, lv := (padL (if fmt = p.f then p.lv else []) (level.toNat + 1)).set level.toNat (l.1, l.2.1, if l.2.2.length = 0 then List.replicate (l.1 * l.2.1 * sizeI fmt).toNat 0 else l.2.2) }
  else .error 180

theorem put_core (f : Int) (ao : Option Addr) (cap : Nat) (lv : List RL) (ws wt mn mg : Int) (level fmt W H : Int) (la : Option Addr) (lc : Nat) (B : List UInt8) (M : Mem) (hsl : SlM M ao lv.length cap (lv.flatMap RL.cells)) (hlvs : ∀ r ∈ lv, r.ok M) (hlen0 : lv.length ≤ 4611686018427387904) (hby : ∀ r ∈ lv, r.B.length ≤ 140737488355328) (hB : SlM M la B.length lc (u8s B)) :
    Fn Try.prog 15 [.agg #[.int .i64 f, .slice ao lv.length cap, .int .i64 ws, .int .i64 wt, .int .i64 mn, .int .i64 mg], .int .i64 level, .int .i64 fmt, .agg #[.int .i64 W, .int .i64 H, .slice la B.length lc]] [] M
      (ResPost (putP ⟨f, lv.map RL.p, ws, wt, mn, mg⟩ level fmt (W, H, B)) M) := by
  have hc := check_core f ao cap lv ws wt mn mg M hsl hlen0
  rw [rightB_p] at hc
  change Fv _ _ _ _ (.int .i64 (errI (rightP ⟨f, lv.map RL.p, ws, wt, mn, mg⟩))) at hc
  unfold putP
  cases hr : rightP ⟨f, lv.map RL.p, ws, wt, mn, mg⟩ with
  | false =>
    rw [hr] at hc
    refine Fn.enter (E := [(0, _), (1, _), (2, _), (3, _)]) Try.func15 rfl Try.ntmps15 rfl rfl fun w0 => ?_
    repeat' (first | (refine WL.p rfl rfl rfl rfl rfl ?_) | (refine WL.nil ?_) | (refine R.region ?_) | (refine R.seq ?_) | (refine WL.i64 rfl rfl rfl rfl (by omega) ?_) | (refine WL.lb rfl rfl rfl rfl rfl rfl (by repeat constructor) (by rfl) ?_) | (refine WL.yes rfl rfl rfl rfl ?_) | (refine WL.no rfl rfl rfl rfl rfl rfl rfl ?_) | (refine R.block ?_) | (refine R.blk ?_) | (refine R.skip ?_) | (refine R.exit rfl ?_) | (refine R.condT rfl ?_) | (refine R.condF rfl ?_) | (refine R.ret ?_) | (refine WL.al rfl rfl rfl rfl rfl rfl ?_; intro b) | (refine WL.bx rfl rfl rfl rfl rfl rfl ?_; intro b) | (refine WL.sb rfl rfl rfl rfl rfl rfl rfl rfl rfl (by repeat constructor) (by rfl) ?_) | (refine WL.bd rfl rfl rfl rfl rfl ?_) | (refine WL.bs rfl rfl rfl rfl rfl rfl rfl rfl ?_; intro g) | (refine R.scope ?_) | (refine R.label ?_) | (refine WL.cv Try.call28 rfl rfl rfl rfl rfl rfl rfl rfl hc ?_) | ((refine WL.gdP rfl rfl rfl rfl ?_ ?_) <;> intro hg <;> (try (exfalso; omega))) | ((refine WL.gdN rfl rfl rfl rfl ?_ ?_) <;> intro hg <;> (try (exfalso; omega))) | ((refine WL.gd rfl rfl rfl rfl ?_ ?_) <;> intro hg) | ((refine R.condP rfl ?_ ?_) <;> intro hc <;> (try (exfalso; omega))) | ((refine R.condN rfl ?_ ?_) <;> intro hc <;> (try (exfalso; omega))) | ((refine R.cond rfl ?_ ?_) <;> intro hc))
    refine R.retCT rfl rfl rfl rfl (by repeat constructor) (by rfl) (List.nil_sublist _) fun _ => ⟨rfl, rfl⟩
  | true =>
    rw [hr] at hc
    have R0 := RightP.of hr
    have hlen : lv.length ≤ 7 := by have := R0.len; rwa [List.length_map] at this
    rw [if_pos rfl]
    simp only [List.length_map]
    have sW := side_pn W M
    have sH := side_pn H M
    have hz := sizeI_bd fmt
    by_cases hbad : level < 0 ∨ 7 ≤ level ∨ sizeI fmt = 0 ∨ ¬ (1 ≤ W ∧ W ≤ 64) ∨ ¬ (1 ≤ H ∧ H ≤ 64)
    · rw [if_pos hbad]
      refine Fn.enter (E := [(0, _), (1, _), (2, _), (3, _)]) Try.func15 rfl Try.ntmps15 rfl rfl fun w0 => ?_
      repeat' (first | (refine WL.p rfl rfl rfl rfl rfl ?_) | (refine WL.nil ?_) | (refine R.region ?_) | (refine R.seq ?_) | (refine WL.i64 rfl rfl rfl rfl (by omega) ?_) | (refine WL.lb rfl rfl rfl rfl rfl rfl (by repeat constructor) (by rfl) ?_) | (refine WL.yes rfl rfl rfl rfl ?_) | (refine WL.no rfl rfl rfl rfl rfl rfl rfl ?_) | (refine R.block ?_) | (refine R.blk ?_) | (refine R.skip ?_) | (refine R.exit rfl ?_) | (refine R.condT rfl ?_) | (refine R.condF rfl ?_) | (refine R.ret ?_) | (refine WL.al rfl rfl rfl rfl rfl rfl ?_; intro b) | (refine WL.bx rfl rfl rfl rfl rfl rfl ?_; intro b) | (refine WL.sb rfl rfl rfl rfl rfl rfl rfl rfl rfl (by repeat constructor) (by rfl) ?_) | (refine WL.bd rfl rfl rfl rfl rfl ?_) | (refine WL.bs rfl rfl rfl rfl rfl rfl rfl rfl ?_; intro g) | (refine R.scope ?_) | (refine R.label ?_) | (refine WL.cv Try.call28 rfl rfl rfl rfl rfl rfl rfl rfl hc ?_) | (refine WL.cv Try.call40 rfl rfl rfl rfl rfl rfl rfl rfl (size_fn _ _) ?_) | (refine WL.cv Try.call41 rfl rfl rfl rfl rfl rfl rfl rfl sW ?_) | (refine WL.cv Try.call41 rfl rfl rfl rfl rfl rfl rfl rfl sH ?_) | ((refine WL.gdP rfl rfl rfl rfl ?_ ?_) <;> intro hg <;> (try (exfalso; omega))) | ((refine WL.gdN rfl rfl rfl rfl ?_ ?_) <;> intro hg <;> (try (exfalso; omega))) | ((refine WL.gd rfl rfl rfl rfl ?_ ?_) <;> intro hg) | ((refine R.condP rfl ?_ ?_) <;> intro hc <;> (try (exfalso; omega))) | ((refine R.condN rfl ?_ ?_) <;> intro hc <;> (try (exfalso; omega))) | ((refine R.cond rfl ?_ ?_) <;> intro hc))
      all_goals refine R.retCT rfl rfl rfl rfl (by repeat constructor) (by rfl) (List.nil_sublist _) fun _ => ⟨rfl, rfl⟩
    · rw [if_neg hbad]
      have h3 := mul_bd (a := W) (b := H) (A := 64) (B := 64) (by omega) (by omega) (by omega) (by omega)
      have h4 := mul_bd h3.1 h3.2 hz.1 hz.2
      by_cases hsh : 0 < (B.length : Int) ∧ (B.length : Int) ≠ W * H * sizeI fmt
      · rw [if_pos hsh]
        refine Fn.enter (E := [(0, _), (1, _), (2, _), (3, _)]) Try.func15 rfl Try.ntmps15 rfl rfl fun w0 => ?_
        repeat' (first | (refine WL.p rfl rfl rfl rfl rfl ?_) | (refine WL.nil ?_) | (refine R.region ?_) | (refine R.seq ?_) | (refine WL.i64 rfl rfl rfl rfl (by omega) ?_) | (refine WL.lb rfl rfl rfl rfl rfl rfl (by repeat constructor) (by rfl) ?_) | (refine WL.yes rfl rfl rfl rfl ?_) | (refine WL.no rfl rfl rfl rfl rfl rfl rfl ?_) | (refine R.block ?_) | (refine R.blk ?_) | (refine R.skip ?_) | (refine R.exit rfl ?_) | (refine R.condT rfl ?_) | (refine R.condF rfl ?_) | (refine R.ret ?_) | (refine WL.al rfl rfl rfl rfl rfl rfl ?_; intro b) | (refine WL.bx rfl rfl rfl rfl rfl rfl ?_; intro b) | (refine WL.sb rfl rfl rfl rfl rfl rfl rfl rfl rfl (by repeat constructor) (by rfl) ?_) | (refine WL.bd rfl rfl rfl rfl rfl ?_) | (refine WL.bs rfl rfl rfl rfl rfl rfl rfl rfl ?_; intro g) | (refine R.scope ?_) | (refine R.label ?_) | (refine WL.cv Try.call28 rfl rfl rfl rfl rfl rfl rfl rfl hc ?_) | (refine WL.cv Try.call40 rfl rfl rfl rfl rfl rfl rfl rfl (size_fn _ _) ?_) | (refine WL.cv Try.call41 rfl rfl rfl rfl rfl rfl rfl rfl sW ?_) | (refine WL.cv Try.call41 rfl rfl rfl rfl rfl rfl rfl rfl sH ?_) | ((refine WL.gdP rfl rfl rfl rfl ?_ ?_) <;> intro hg <;> (try (exfalso; omega))) | ((refine WL.gdN rfl rfl rfl rfl ?_ ?_) <;> intro hg <;> (try (exfalso; omega))) | ((refine WL.gd rfl rfl rfl rfl ?_ ?_) <;> intro hg) | ((refine R.condP rfl ?_ ?_) <;> intro hc <;> (try (exfalso; omega))) | ((refine R.condN rfl ?_ ?_) <;> intro hc <;> (try (exfalso; omega))) | ((refine R.cond rfl ?_ ?_) <;> intro hc))
        all_goals refine R.retCT rfl rfl rfl rfl (by repeat constructor) (by rfl) (List.nil_sublist _) fun _ => ⟨rfl, rfl⟩
      · rw [if_neg hsh]
        by_cases hfo : 0 < level ∧ 0 < (lv.length : Int) ∧ fmt ≠ f
        · rw [if_pos hfo]
          refine Fn.enter (E := [(0, _), (1, _), (2, _), (3, _)]) Try.func15 rfl Try.ntmps15 rfl rfl fun w0 => ?_
          repeat' (first | (refine WL.p rfl rfl rfl rfl rfl ?_) | (refine WL.nil ?_) | (refine R.region ?_) | (refine R.seq ?_) | (refine WL.i64 rfl rfl rfl rfl (by omega) ?_) | (refine WL.lb rfl rfl rfl rfl rfl rfl (by repeat constructor) (by rfl) ?_) | (refine WL.yes rfl rfl rfl rfl ?_) | (refine WL.no rfl rfl rfl rfl rfl rfl rfl ?_) | (refine R.block ?_) | (refine R.blk ?_) | (refine R.skip ?_) | (refine R.exit rfl ?_) | (refine R.condT rfl ?_) | (refine R.condF rfl ?_) | (refine R.ret ?_) | (refine WL.al rfl rfl rfl rfl rfl rfl ?_; intro b) | (refine WL.bx rfl rfl rfl rfl rfl rfl ?_; intro b) | (refine WL.sb rfl rfl rfl rfl rfl rfl rfl rfl rfl (by repeat constructor) (by rfl) ?_) | (refine WL.bd rfl rfl rfl rfl rfl ?_) | (refine WL.bs rfl rfl rfl rfl rfl rfl rfl rfl ?_; intro g) | (refine R.scope ?_) | (refine R.label ?_) | (refine WL.cv Try.call28 rfl rfl rfl rfl rfl rfl rfl rfl hc ?_) | (refine WL.cv Try.call40 rfl rfl rfl rfl rfl rfl rfl rfl (size_fn _ _) ?_) | (refine WL.cv Try.call41 rfl rfl rfl rfl rfl rfl rfl rfl sW ?_) | (refine WL.cv Try.call41 rfl rfl rfl rfl rfl rfl rfl rfl sH ?_) | ((refine WL.gdP rfl rfl rfl rfl ?_ ?_) <;> intro hg <;> (try (exfalso; omega))) | ((refine WL.gdN rfl rfl rfl rfl ?_ ?_) <;> intro hg <;> (try (exfalso; omega))) | ((refine WL.gd rfl rfl rfl rfl ?_ ?_) <;> intro hg) | ((refine R.condP rfl ?_ ?_) <;> intro hc <;> (try (exfalso; omega))) | ((refine R.condN rfl ?_ ?_) <;> intro hc <;> (try (exfalso; omega))) | ((refine R.cond rfl ?_ ?_) <;> intro hc))
          all_goals refine R.retCT rfl rfl rfl rfl (by repeat constructor) (by rfl) (List.nil_sublist _) fun _ => ⟨rfl, rfl⟩
        · rw [if_neg hfo]
          have hf0 : lv.length = 0 → fmt ≠ f → lv = [] := fun h _ => List.eq_nil_of_length_eq_zero h
          obtain ⟨V', L', hV, hL', hclone⟩ : ∃ V' L', ((fmt = f ∧ V' = Value.slice ao lv.length cap) ∨ (fmt ≠ f ∧ V' = .slice none 0 0)) ∧ L' = (if fmt = f then lv.map RL.p else []) ∧
              Fn Try.prog 32 [.agg #[.int .i64 f, V', .int .i64 ws, .int .i64 wt, .int .i64 mn, .int .i64 mg]] [] M (ImgPost ⟨f, L', ws, wt, mn, mg⟩ M) := by
            by_cases hff : fmt = f
            · exact ⟨_, _, .inl ⟨hff, rfl⟩, rfl, by rw [if_pos hff]; exact clone_core f ao cap lv ws wt mn mg M hsl hlvs (by omega) hby⟩
            · refine ⟨_, _, .inr ⟨hff, rfl⟩, rfl, ?_⟩
              rw [if_neg hff]
              exact clone_core f none 0 [] ws wt mn mg M ⟨Nat.le_refl _, fun _ => ⟨rfl, rfl⟩, fun a h => by cases h⟩ (fun r hr => by cases hr) (by simp) (fun r hr => by cases hr)
          rw [← hL']
          refine Fn.enter (E := [(0, _), (1, _), (2, _), (3, _)]) Try.func15 rfl Try.ntmps15 rfl rfl fun w0 => ?_
          repeat' (first | (refine WL.p rfl rfl rfl rfl rfl ?_) | (refine WL.nil ?_) | (refine R.region ?_) | (refine R.seq ?_) | (refine WL.i64 rfl rfl rfl rfl (by omega) ?_) | (refine WL.lb rfl rfl rfl rfl rfl rfl (by repeat constructor) (by rfl) ?_) | (refine WL.yes rfl rfl rfl rfl ?_) | (refine WL.no rfl rfl rfl rfl rfl rfl rfl ?_) | (refine R.block ?_) | (refine R.blk ?_) | (refine R.skip ?_) | (refine R.exit rfl ?_) | (refine R.condT rfl ?_) | (refine R.condF rfl ?_) | (refine R.ret ?_) | (refine WL.al rfl rfl rfl rfl rfl rfl ?_; intro b) | (refine WL.bx rfl rfl rfl rfl rfl rfl ?_; intro b) | (refine WL.sb rfl rfl rfl rfl rfl rfl rfl rfl rfl (by repeat constructor) (by rfl) ?_) | (refine WL.bd rfl rfl rfl rfl rfl ?_) | (refine WL.bs rfl rfl rfl rfl rfl rfl rfl rfl ?_; intro g) | (refine R.scope ?_) | (refine R.label ?_) | (refine WL.cv Try.call28 rfl rfl rfl rfl rfl rfl rfl rfl hc ?_) | ((refine WL.gdP rfl rfl rfl rfl ?_ ?_) <;> intro hg <;> (try (exfalso; omega))) | ((refine WL.gdN rfl rfl rfl rfl ?_ ?_) <;> intro hg <;> (try (exfalso; omega))) | ((refine WL.gd rfl rfl rfl rfl ?_ ?_) <;> intro hg) | ((refine R.condP rfl ?_ ?_) <;> intro hc <;> (try (exfalso; omega))) | ((refine R.condN rfl ?_ ?_) <;> intro hc <;> (try (exfalso; omega))) | ((refine R.cond rfl ?_ ?_) <;> intro hc))
          refine WL.cv Try.call40 rfl rfl rfl rfl rfl rfl rfl rfl (size_fn _ _) ?_
          repeat (first | (refine WL.p rfl rfl rfl rfl rfl ?_) | (refine WL.nil ?_) | (refine R.region ?_) | (refine R.seq ?_) | (refine WL.i64 rfl rfl rfl rfl (by omega) ?_) | (refine WL.lb rfl rfl rfl rfl rfl rfl (by repeat constructor) (by rfl) ?_) | (refine WL.yes rfl rfl rfl rfl ?_) | (refine WL.no rfl rfl rfl rfl rfl rfl rfl ?_) | (refine R.blk ?_) | (refine R.skip ?_) | (refine R.exit rfl ?_) | (refine R.ret ?_) | (refine WL.al rfl rfl rfl rfl rfl rfl ?_; intro b) | (refine WL.bx rfl rfl rfl rfl rfl rfl ?_; intro b) | (refine WL.sb rfl rfl rfl rfl rfl rfl rfl rfl rfl (by repeat constructor) (by rfl) ?_) | (refine WL.bd rfl rfl rfl rfl rfl ?_) | (refine WL.bs rfl rfl rfl rfl rfl rfl rfl rfl ?_; intro g) | (refine R.scope ?_) | (refine R.label ?_))
          refine R.joinE [1, 2, 4, 7, 8, 9, 11] rfl (fun J again => ?_) ?_
          · repeat' (first | (refine WL.p rfl rfl rfl rfl rfl ?_) | (refine WL.nil ?_) | (refine R.region ?_) | (refine R.seq ?_) | (refine WL.i64 rfl rfl rfl rfl (by omega) ?_) | (refine WL.lb rfl rfl rfl rfl rfl rfl (by repeat constructor) (by rfl) ?_) | (refine WL.yes rfl rfl rfl rfl ?_) | (refine WL.no rfl rfl rfl rfl rfl rfl rfl ?_) | (refine R.block ?_) | (refine R.blk ?_) | (refine R.skip ?_) | (refine R.exit rfl ?_) | (refine R.condT rfl ?_) | (refine R.condF rfl ?_) | (refine R.ret ?_) | (refine WL.al rfl rfl rfl rfl rfl rfl ?_; intro b) | (refine WL.bx rfl rfl rfl rfl rfl rfl ?_; intro b) | (refine WL.sb rfl rfl rfl rfl rfl rfl rfl rfl rfl (by repeat constructor) (by rfl) ?_) | (refine WL.bd rfl rfl rfl rfl rfl ?_) | (refine WL.bs rfl rfl rfl rfl rfl rfl rfl rfl ?_; intro g) | (refine R.scope ?_) | (refine R.label ?_) | (refine WL.cv Try.call41 rfl rfl rfl rfl rfl rfl rfl rfl sW ?_) | (refine WL.cv Try.call41 rfl rfl rfl rfl rfl rfl rfl rfl sH ?_) | ((refine WL.gdP rfl rfl rfl rfl ?_ ?_) <;> intro hg <;> (try (exfalso; omega))) | ((refine WL.gdN rfl rfl rfl rfl ?_ ?_) <;> intro hg <;> (try (exfalso; omega))) | ((refine WL.gd rfl rfl rfl rfl ?_ ?_) <;> intro hg) | ((refine R.condP rfl ?_ ?_) <;> intro hc <;> (try (exfalso; omega))) | ((refine R.condN rfl ?_ ?_) <;> intro hc <;> (try (exfalso; omega))) | ((refine R.cond rfl ?_ ?_) <;> intro hc))
            all_goals exact again _ _ (by repeat (first | refine Sub.cons rfl ?_ | exact Sub.nil _)) (by first | apply List.Sublist.refl | apply List.nil_sublist | apply List.sublist_cons_self | (repeat (first | apply List.Sublist.refl | apply List.nil_sublist | apply List.Sublist.cons_cons | apply List.Sublist.cons)))
          · rename_i b4 b7
            obtain ⟨lvl, rfl⟩ : ∃ n : Nat, level = n := ⟨level.toNat, by omega⟩
            obtain ⟨n, hn⟩ : ∃ n : Nat, W * H * sizeI fmt = n := ⟨(W * H * sizeI fmt).toNat, by omega⟩
            have hn1 : n ≤ 16384 := by omega
            repeat (first | (refine WL.p rfl rfl rfl rfl rfl ?_) | (refine WL.nil ?_) | (refine R.region ?_) | (refine R.seq ?_) | (refine WL.i64 rfl rfl rfl rfl (by omega) ?_) | (refine WL.lb rfl rfl rfl rfl rfl rfl (by repeat constructor) (by rfl) ?_) | (refine WL.yes rfl rfl rfl rfl ?_) | (refine WL.no rfl rfl rfl rfl rfl rfl rfl ?_) | (refine R.blk ?_) | (refine R.skip ?_) | (refine R.exit rfl ?_) | (refine R.ret ?_) | (refine WL.al rfl rfl rfl rfl rfl rfl ?_; intro b) | (refine WL.bx rfl rfl rfl rfl rfl rfl ?_; intro b) | (refine WL.sb rfl rfl rfl rfl rfl rfl rfl rfl rfl (by repeat constructor) (by rfl) ?_) | (refine WL.bd rfl rfl rfl rfl rfl ?_) | (refine WL.bs rfl rfl rfl rfl rfl rfl rfl rfl ?_; intro g) | (refine R.scope ?_) | (refine R.label ?_))
            refine R.joinK (α := Unit) [1, 2, 4, 7, 8, 9, 11] rfl (fun _ => []) (fun _ => [.box b [.int .i64 0, .slice none 0 0, .int .i64 0, .int .i64 0, .int .i64 0, .int .i64 0] 24, .box b7 [.int .i64 W, .int .i64 H, .slice la B.length lc] 34, .box b4 [.int .i64 f, V', .int .i64 ws, .int .i64 wt, .int .i64 mn, .int .i64 mg] 24]) (fun _ => M) (fun _ => True) (fun J again => ?_) (fun _ _ => ?_)
            · rcases hV with ⟨hff, rfl⟩ | ⟨hff, rfl⟩
              · refine R.condN rfl (fun h => absurd hff h) (fun _ => ?_)
                repeat (first | (refine WL.p rfl rfl rfl rfl rfl ?_) | (refine WL.nil ?_) | (refine R.region ?_) | (refine R.seq ?_) | (refine WL.i64 rfl rfl rfl rfl (by omega) ?_) | (refine WL.lb rfl rfl rfl rfl rfl rfl (by repeat constructor) (by rfl) ?_) | (refine WL.yes rfl rfl rfl rfl ?_) | (refine WL.no rfl rfl rfl rfl rfl rfl rfl ?_) | (refine R.block ?_) | (refine R.blk ?_) | (refine R.skip ?_) | (refine R.exit rfl ?_) | (refine R.condT rfl ?_) | (refine R.condF rfl ?_) | (refine R.ret ?_) | (refine WL.al rfl rfl rfl rfl rfl rfl ?_; intro b) | (refine WL.bx rfl rfl rfl rfl rfl rfl ?_; intro b) | (refine WL.sb rfl rfl rfl rfl rfl rfl rfl rfl rfl (by repeat constructor) (by rfl) ?_) | (refine WL.bd rfl rfl rfl rfl rfl ?_) | (refine WL.bs rfl rfl rfl rfl rfl rfl rfl rfl ?_; intro g) | (refine R.scope ?_) | (refine R.label ?_))
                exact again () _ _ _ trivial (by repeat (first | refine Sub.cons rfl ?_ | exact Sub.nil _)) (by repeat (first | refine Sub.cons rfl ?_ | exact Sub.nil _)) (by first | apply List.Sublist.refl | apply List.nil_sublist | apply List.sublist_cons_self | (repeat (first | apply List.Sublist.refl | apply List.nil_sublist | apply List.Sublist.cons_cons | apply List.Sublist.cons))) rfl
              · refine R.condN rfl (fun _ => ?_) (fun h => absurd h hff)
                repeat (first | (refine WL.p rfl rfl rfl rfl rfl ?_) | (refine WL.nil ?_) | (refine R.region ?_) | (refine R.seq ?_) | (refine WL.i64 rfl rfl rfl rfl (by omega) ?_) | (refine WL.lb rfl rfl rfl rfl rfl rfl (by repeat constructor) (by rfl) ?_) | (refine WL.yes rfl rfl rfl rfl ?_) | (refine WL.no rfl rfl rfl rfl rfl rfl rfl ?_) | (refine R.block ?_) | (refine R.blk ?_) | (refine R.skip ?_) | (refine R.exit rfl ?_) | (refine R.condT rfl ?_) | (refine R.condF rfl ?_) | (refine R.ret ?_) | (refine WL.al rfl rfl rfl rfl rfl rfl ?_; intro b) | (refine WL.bx rfl rfl rfl rfl rfl rfl ?_; intro b) | (refine WL.sb rfl rfl rfl rfl rfl rfl rfl rfl rfl (by repeat constructor) (by rfl) ?_) | (refine WL.bd rfl rfl rfl rfl rfl ?_) | (refine WL.bs rfl rfl rfl rfl rfl rfl rfl rfl ?_; intro g) | (refine R.scope ?_) | (refine R.label ?_))
                exact again () _ _ _ trivial (by repeat (first | refine Sub.cons rfl ?_ | exact Sub.nil _)) (by repeat (first | refine Sub.cons rfl ?_ | exact Sub.nil _)) (by first | apply List.Sublist.refl | apply List.nil_sublist | apply List.sublist_cons_self | (repeat (first | apply List.Sublist.refl | apply List.nil_sublist | apply List.Sublist.cons_cons | apply List.Sublist.cons))) rfl
            · dsimp only [appK, id]
              repeat (first | (refine WL.p rfl rfl rfl rfl rfl ?_) | (refine WL.nil ?_) | (refine R.region ?_) | (refine R.seq ?_) | (refine WL.i64 rfl rfl rfl rfl (by omega) ?_) | (refine WL.lb rfl rfl rfl rfl rfl rfl (by repeat constructor) (by rfl) ?_) | (refine WL.yes rfl rfl rfl rfl ?_) | (refine WL.no rfl rfl rfl rfl rfl rfl rfl ?_) | (refine R.block ?_) | (refine R.blk ?_) | (refine R.skip ?_) | (refine R.exit rfl ?_) | (refine R.condT rfl ?_) | (refine R.condF rfl ?_) | (refine R.ret ?_) | (refine WL.al rfl rfl rfl rfl rfl rfl ?_; intro b) | (refine WL.bx rfl rfl rfl rfl rfl rfl ?_; intro b) | (refine WL.sb rfl rfl rfl rfl rfl rfl rfl rfl rfl (by repeat constructor) (by rfl) ?_) | (refine WL.bd rfl rfl rfl rfl rfl ?_) | (refine WL.bs rfl rfl rfl rfl rfl rfl rfl rfl ?_; intro g) | (refine R.scope ?_) | (refine R.label ?_))
              refine WL.call Try.call32 rfl rfl rfl rfl rfl rfl rfl rfl (Sin := []) rfl hclone ?_
              rintro v S1 M1 hm ⟨go, gc, ls, rfl, rfl, hfr, hp⟩
              simp only at hp
              have hls7 : ls.length ≤ 7 := by
                have := congrArg List.length hp
                rw [List.length_map, hL'] at this
                split at this
                · rw [List.length_map] at this; omega
                · have : ls.length = 0 := this
                  omega
              dsimp only [List.cons_append, List.nil_append]
              repeat (first | (refine WL.p rfl rfl rfl rfl rfl ?_) | (refine WL.nil ?_) | (refine R.region ?_) | (refine R.seq ?_) | (refine WL.i64 rfl rfl rfl rfl (by omega) ?_) | (refine WL.lb rfl rfl rfl rfl rfl rfl (by repeat constructor) (by rfl) ?_) | (refine WL.yes rfl rfl rfl rfl ?_) | (refine WL.no rfl rfl rfl rfl rfl rfl rfl ?_) | (refine R.block ?_) | (refine R.blk ?_) | (refine R.skip ?_) | (refine R.exit rfl ?_) | (refine R.condT rfl ?_) | (refine R.condF rfl ?_) | (refine R.ret ?_) | (refine WL.al rfl rfl rfl rfl rfl rfl ?_; intro b) | (refine WL.bx rfl rfl rfl rfl rfl rfl ?_; intro b) | (refine WL.sb rfl rfl rfl rfl rfl rfl rfl rfl rfl (by repeat constructor) (by rfl) ?_) | (refine WL.bd rfl rfl rfl rfl rfl ?_) | (refine WL.bs rfl rfl rfl rfl rfl rfl rfl rfl ?_; intro g) | (refine R.scope ?_) | (refine R.label ?_))
              refine R.loopK (α := Nat × Option Nat × Nat) [1, 2, 4, 7, 8, 9, 11] rfl (fun _ => []) (fun z => [.row z.2.1 z.2.2 34 3 (ls ++ List.replicate z.1 zeroOL).length ((ls ++ List.replicate z.1 zeroOL).flatMap OL.cells), _, _, .box b4 [.int .i64 fmt, rowV z.2.1 (ls ++ List.replicate z.1 zeroOL).length z.2.2, .int .i64 ws, .int .i64 wt, .int .i64 mn, .int .i64 mg] 24]) (fun _ => M1) (fun z => z.1 ≤ lvl + 1 - ls.length) (fun z => lvl + 1 - ls.length - z.1) (0, go, gc) (Nat.zero_le _) (by repeat (first | refine Sub.cons rfl ?_ | exact Sub.nil _)) (by
                simp only [List.replicate_zero, List.append_nil]; exact List.Sublist.refl _) rfl ?_
              rintro ⟨j, go, gc⟩ J hj again
              simp only at hj
              dsimp only [appK, id]
              have hlj : (ls ++ List.replicate j zeroOL).length = ls.length + j := by rw [List.length_append, List.length_replicate]
              repeat (first | (refine WL.p rfl rfl rfl rfl rfl ?_) | (refine WL.nil ?_) | (refine R.region ?_) | (refine R.seq ?_) | (refine WL.i64 rfl rfl rfl rfl (by omega) ?_) | (refine WL.lb rfl rfl rfl rfl rfl rfl (by repeat constructor) (by rfl) ?_) | (refine WL.yes rfl rfl rfl rfl ?_) | (refine WL.no rfl rfl rfl rfl rfl rfl rfl ?_) | (refine R.blk ?_) | (refine R.skip ?_) | (refine R.exit rfl ?_) | (refine R.ret ?_) | (refine WL.al rfl rfl rfl rfl rfl rfl ?_; intro b) | (refine WL.bx rfl rfl rfl rfl rfl rfl ?_; intro b) | (refine WL.sb rfl rfl rfl rfl rfl rfl rfl rfl rfl (by repeat constructor) (by rfl) ?_) | (refine WL.bd rfl rfl rfl rfl rfl ?_) | (refine WL.bs rfl rfl rfl rfl rfl rfl rfl rfl ?_; intro g) | (refine R.scope ?_) | (refine R.label ?_))
              refine R.condP rfl (fun hle => ?_) (fun hgt => ?_)
              · repeat (first | (refine WL.p rfl rfl rfl rfl rfl ?_) | (refine WL.nil ?_) | (refine R.region ?_) | (refine R.seq ?_) | (refine WL.i64 rfl rfl rfl rfl (by omega) ?_) | (refine WL.lb rfl rfl rfl rfl rfl rfl (by repeat constructor) (by rfl) ?_) | (refine WL.yes rfl rfl rfl rfl ?_) | (refine WL.no rfl rfl rfl rfl rfl rfl rfl ?_) | (refine R.block ?_) | (refine R.blk ?_) | (refine R.skip ?_) | (refine R.exit rfl ?_) | (refine R.condT rfl ?_) | (refine R.condF rfl ?_) | (refine R.ret ?_) | (refine WL.al rfl rfl rfl rfl rfl rfl ?_; intro b) | (refine WL.bx rfl rfl rfl rfl rfl rfl ?_; intro b) | (refine WL.sb rfl rfl rfl rfl rfl rfl rfl rfl rfl (by repeat constructor) (by rfl) ?_) | (refine WL.bd rfl rfl rfl rfl rfl ?_) | (refine WL.bs rfl rfl rfl rfl rfl rfl rfl rfl ?_; intro g) | (refine R.scope ?_) | (refine R.label ?_))
                refine WL.app (news := zeroOL.cells) rfl rfl rfl rfl rfl rfl rfl rfl rfl rfl (by repeat constructor) (by intro h; cases h) (Src.ofRow (by repeat constructor)) (by rfl) (allOne_mem rfl) (by omega) (by show (_ + 1) * 40 ≤ _; omega) ?_
                intro g4 c4 _
                have e1 : (ls ++ List.replicate j zeroOL).length + 1 = (ls ++ List.replicate (j + 1) zeroOL).length := by rw [hlj, List.length_append, List.length_replicate]; omega
                have e2 : (ls ++ List.replicate j zeroOL).flatMap OL.cells ++ zeroOL.cells = (ls ++ List.replicate (j + 1) zeroOL).flatMap OL.cells := by
                  rw [List.replicate_succ', ← List.append_assoc, List.flatMap_append (xs := ls ++ List.replicate j zeroOL)]; simp
                repeat (first | (refine WL.p rfl rfl rfl rfl rfl ?_) | (refine WL.nil ?_) | (refine R.region ?_) | (refine R.seq ?_) | (refine WL.i64 rfl rfl rfl rfl (by omega) ?_) | (refine WL.lb rfl rfl rfl rfl rfl rfl (by repeat constructor) (by rfl) ?_) | (refine WL.yes rfl rfl rfl rfl ?_) | (refine WL.no rfl rfl rfl rfl rfl rfl rfl ?_) | (refine R.block ?_) | (refine R.blk ?_) | (refine R.skip ?_) | (refine R.exit rfl ?_) | (refine R.condT rfl ?_) | (refine R.condF rfl ?_) | (refine R.ret ?_) | (refine WL.al rfl rfl rfl rfl rfl rfl ?_; intro b) | (refine WL.bx rfl rfl rfl rfl rfl rfl ?_; intro b) | (refine WL.sb rfl rfl rfl rfl rfl rfl rfl rfl rfl (by repeat constructor) (by rfl) ?_) | (refine WL.bd rfl rfl rfl rfl rfl ?_) | (refine WL.bs rfl rfl rfl rfl rfl rfl rfl rfl ?_; intro g) | (refine R.scope ?_) | (refine R.label ?_))
                rw [e1, e2]
                exact again (j + 1, g4, c4) _ _ _ (by show j + 1 ≤ _; omega) (by show lvl + 1 - ls.length - (j + 1) < lvl + 1 - ls.length - j; omega) (by repeat (first | refine Sub.cons rfl ?_ | exact Sub.nil _)) (by repeat (first | refine Sub.cons rfl ?_ | exact Sub.nil _)) (by first | apply List.Sublist.refl | apply List.nil_sublist | apply List.sublist_cons_self | (repeat (first | apply List.Sublist.refl | apply List.nil_sublist | apply List.Sublist.cons_cons | apply List.Sublist.cons))) rfl
              · have hlv : lvl < (ls ++ List.replicate j zeroOL).length := by omega
                obtain ⟨A, o, C, hAC, hA⟩ := split_at hlv
                have hjj : j = lvl + 1 - ls.length := by omega
                have hzp : (ls ++ List.replicate j zeroOL).map OL.p = padL L' (lvl + 1) := by
                  rw [List.map_append, zero_p, hp, padL, ← hp, List.length_map, hjj]
                have hfz := hfr.zero hm j
                rw [hAC] at hzp hfz hlv ⊢
                have hmade : (madeCells td5.zero.cells (n * td5.size)).toList = u8s (List.replicate n 0) := (made_zero n).trans (by rw [leB_zero])
                have hBn : B.length = 0 ∨ B.length = n := by omega
                obtain ⟨BB, hBBd⟩ : ∃ BB : List UInt8, BB = if B.length = 0 then List.replicate n 0 else B := ⟨_, rfl⟩
                have hBB : BB.length = n := by
                  rw [hBBd]
                  split
                  · rw [List.length_replicate]
                  · omega
                have hcpy : (u8s (List.replicate n 0)).take 0 ++ u8s B ++ (u8s (List.replicate n 0)).drop (0 + (u8s B).length) = u8s BB := by
                  rw [hBBd]
                  split
                  · rename_i h0
                    rw [List.eq_nil_of_length_eq_zero h0]; rfl
                  · rw [List.take_zero, List.nil_append, List.drop_of_length_le (by rw [u8s_length, u8s_length, List.length_replicate]; omega), List.append_nil]
                refine R.rowFact (List.Mem.head _) (fun hl hnc hno => ?_)
                obtain ⟨g4, rfl⟩ : ∃ g, go = some g := by
                  cases go with
                  | none => have := hno rfl; omega
                  | some g => exact ⟨g, rfl⟩
                have hcA : (A.flatMap OL.cells).length = lvl * 3 := by rw [cellsO_len, hA]
                have hset : ∀ gn, setsL (0 + lvl * 3) [.int .i64 W, .int .i64 H, rowV (some gn) n n] ((A ++ o :: C).flatMap OL.cells) = (A ++ (⟨W, H, some gn, n, BB⟩ : OL) :: C).flatMap OL.cells := by
                  intro gn
                  rw [List.flatMap_append, List.flatMap_append, List.flatMap_cons, List.flatMap_cons, cellsOL, cellsOL, hBB]
                  exact setsL_mid (by omega) rfl
                have hfit : 0 + lvl * 3 + 3 ≤ ((A ++ o :: C).flatMap OL.cells).length := by
                  rw [hl]; omega
                repeat' (first | (refine WL.step rfl rfl rfl (Ev.asN n (Ev.i64 rfl (by omega)) hn) ?_) | (refine WL.mk (n := n) rfl rfl rfl rfl rfl rfl rfl rfl rfl (by show 1 * n ≤ _; omega) (by omega) ?_; intro gn) | (refine WL.p rfl rfl rfl rfl rfl ?_) | (refine WL.nil ?_) | (refine R.region ?_) | (refine R.seq ?_) | (refine WL.i64 rfl rfl rfl rfl (by omega) ?_) | (refine WL.lb rfl rfl rfl rfl rfl rfl (by repeat constructor) (by rfl) ?_) | (refine WL.yes rfl rfl rfl rfl ?_) | (refine WL.no rfl rfl rfl rfl rfl rfl rfl ?_) | (refine R.block ?_) | (refine R.blk ?_) | (refine R.skip ?_) | (refine R.exit rfl ?_) | (refine R.condT rfl ?_) | (refine R.condF rfl ?_) | (refine R.ret ?_) | (refine WL.al rfl rfl rfl rfl rfl rfl ?_; intro b) | (refine WL.bx rfl rfl rfl rfl rfl rfl ?_; intro b) | (refine WL.sb rfl rfl rfl rfl rfl rfl rfl rfl rfl (by repeat constructor) (by rfl) ?_) | (refine WL.bd rfl rfl rfl rfl rfl ?_) | (refine WL.bs rfl rfl rfl rfl rfl rfl rfl rfl ?_; intro g) | (refine R.scope ?_) | (refine R.label ?_) | ((refine WL.gdP rfl rfl rfl rfl ?_ ?_) <;> intro hg <;> (try (exfalso; omega))) | ((refine WL.gdN rfl rfl rfl rfl ?_ ?_) <;> intro hg <;> (try (exfalso; omega))) | ((refine WL.gd rfl rfl rfl rfl ?_ ?_) <;> intro hg) | ((refine R.condP rfl ?_ ?_) <;> intro hc <;> (try (exfalso; omega))) | ((refine R.condN rfl ?_ ?_) <;> intro hc <;> (try (exfalso; omega))) | ((refine R.cond rfl ?_ ?_) <;> intro hc))
                rw [hmade]
                refine WL.cp (u8s B) rfl rfl rfl rfl rfl rfl rfl rfl rfl rfl ((u8s_length B).trans (Nat.min_eq_left (by omega)).symm) (fun h => (hB.2.1 h).1) (Src.ofSl (hB.mle hm)) (by repeat constructor) (by rw [u8s_length, u8s_length, List.length_replicate]; omega) u8s_one ?_
                rw [hcpy]
                repeat' (first | (refine WL.ix (0 + lvl * 3) rfl rfl rfl rfl rfl rfl rfl rfl rfl (by omega) (by omega) (by show _ + _ * 3 = _; omega) ?_) | (refine WL.sr (us := [.int .i64 W, .int .i64 H, rowV (some gn) n n]) _ rfl rfl rfl rfl rfl rfl rfl rfl rfl (by repeat constructor) hfit (hset gn) ?_) | (refine WL.p rfl rfl rfl rfl rfl ?_) | (refine WL.nil ?_) | (refine R.region ?_) | (refine R.seq ?_) | (refine WL.i64 rfl rfl rfl rfl (by omega) ?_) | (refine WL.lb rfl rfl rfl rfl rfl rfl (by repeat constructor) (by rfl) ?_) | (refine WL.yes rfl rfl rfl rfl ?_) | (refine WL.no rfl rfl rfl rfl rfl rfl rfl ?_) | (refine R.block ?_) | (refine R.blk ?_) | (refine R.skip ?_) | (refine R.exit rfl ?_) | (refine R.condT rfl ?_) | (refine R.condF rfl ?_) | (refine R.ret ?_) | (refine WL.al rfl rfl rfl rfl rfl rfl ?_; intro b) | (refine WL.bx rfl rfl rfl rfl rfl rfl ?_; intro b) | (refine WL.sb rfl rfl rfl rfl rfl rfl rfl rfl rfl (by repeat constructor) (by rfl) ?_) | (refine WL.bd rfl rfl rfl rfl rfl ?_) | (refine WL.bs rfl rfl rfl rfl rfl rfl rfl rfl ?_; intro g) | (refine R.scope ?_) | (refine R.label ?_) | ((refine WL.gdP rfl rfl rfl rfl ?_ ?_) <;> intro hg <;> (try (exfalso; omega))) | ((refine WL.gdN rfl rfl rfl rfl ?_ ?_) <;> intro hg <;> (try (exfalso; omega))) | ((refine WL.gd rfl rfl rfl rfl ?_ ?_) <;> intro hg) | ((refine R.condP rfl ?_ ?_) <;> intro hc <;> (try (exfalso; omega))) | ((refine R.condN rfl ?_ ?_) <;> intro hc <;> (try (exfalso; omega))) | ((refine R.cond rfl ?_ ?_) <;> intro hc))
                refine R.frz (ao := some gn) (cap := n) (by repeat constructor) fun M2 hm2 hrow hnew => ?_
                have hlen2 : (A ++ o :: C).length = (A ++ (⟨W, H, some gn, n, BB⟩ : OL) :: C).length := by simp
                refine R.retCT rfl rfl rfl rfl (by repeat constructor) (by rfl) (S2 := [_]) (List.Sublist.cons_cons _ (List.nil_sublist _)) fun _ => ⟨_, rfl, some g4, gc, A ++ (⟨W, H, some gn, n, BB⟩ : OL) :: C, ?_, ?_, ?_, ?_⟩
                · rw [hlen2]
                · rw [hlen2]
                · exact hfz.set hm hm2 (by show RowM M2 (some gn) n 5 1 BB.length (u8s BB); rw [hBB]; exact hrow) hnew
                · show _ = (padL L' ((lvl : Int).toNat + 1)).set (lvl : Int).toNat _
                  rw [Int.toNat_natCast, ← hzp, hn, Int.toNat_natCast, ← hBBd, List.map_append, List.map_cons, List.map_append, List.map_cons, set_mid (by rw [List.length_map, hA])]
                  rfl
end Go.Proofs.Ytaaiimlaklpjpaa
