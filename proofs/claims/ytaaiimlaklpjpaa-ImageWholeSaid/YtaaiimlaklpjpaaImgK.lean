/- Contract: the mean of pixels, by the reference. No condition. -/
import Derived.Test.YtaaiimlaklpjpaaImgI
namespace Go.Proofs.Ytaaiimlaklpjpaa
open Go
set_option linter.unusedVariables false
set_option linter.unusedSimpArgs false
set_option maxRecDepth 100000
set_option maxHeartbeats 4000000
attribute [local irreducible] WL R Fn Fv

theorem leB_get {sz m j : Nat} (h : j < sz) : (leB sz m)[j]? = some (UInt8.ofNat (m / 256 ^ j)) := by simp [leB, h]
theorem u8_mod {a b : Nat} (h : a % 256 = b % 256) : UInt8.ofNat a = UInt8.ofNat b := by
  apply UInt8.toNat_inj.1
  simpa using h
theorem leB_add {sz acc p : Nat} (h : acc < 2 ^ p) (hp : p < 8 * sz) : leB sz (acc + 2 ^ p) = (leB sz acc).set (p / 8) (UInt8.ofNat (acc / 256 ^ (p / 8) + 2 ^ (p % 8))) := by
  have e256 : ∀ n : Nat, (256 : Nat) ^ n = 2 ^ (8 * n) := fun n => by rw [Nat.pow_mul]
  have hsplit : 2 ^ p = 256 ^ (p / 8) * 2 ^ (p % 8) := by rw [e256, ← Nat.pow_add]; congr 1; omega
  apply List.ext_getElem?
  intro j
  rcases Nat.lt_or_ge j sz with hj | hj
  · rw [leB_get hj, List.getElem?_set]
    by_cases hjp : p / 8 = j
    · subst hjp
      rw [if_pos rfl, if_pos (by rw [leB_length]; exact hj)]
      congr 2
      rw [hsplit, Nat.add_mul_div_left _ _ (Nat.pos_of_ne_zero (by simp))]
    · rw [if_neg hjp, leB_get hj]
      congr 1
      apply u8_mod
      rcases Nat.lt_or_ge j (p / 8) with hlt | hge
      · have : 2 ^ p = 256 ^ j * (256 * 2 ^ (p - 8 * (j + 1))) := by
          rw [← Nat.mul_assoc, ← Nat.pow_succ, e256, ← Nat.pow_add]; congr 1; omega
        rw [this, Nat.add_mul_div_left _ _ (Nat.pos_of_ne_zero (by simp)), Nat.add_mul_mod_self_left]
      · have h2 : acc + 2 ^ p < 256 ^ j := by
          have : 2 ^ (p + 1) ≤ 2 ^ (8 * j) := Nat.pow_le_pow_right (by decide) (by omega)
          rw [Nat.pow_succ] at this
          rw [e256]
          omega
        rw [Nat.div_eq_of_lt h2, Nat.div_eq_of_lt (by omega)]
  · rw [List.getElem?_eq_none (by rw [leB_length]; exact hj), List.getElem?_eq_none (by rw [List.length_set, leB_length]; exact hj)]
theorem bit_step (m i : Nat) : m % 2 ^ (i + 1) = m % 2 ^ i + m / 2 ^ i % 2 * 2 ^ i := by
  rw [Nat.pow_succ, Nat.mod_mul]
  rw [Nat.mul_comm]

theorem made_zero (n : Nat) : (madeCells (Value.int .u8 0).cells (n * 1)).toList = u8s (leB n 0) := by
  rw [leB_zero]
  show (madeCells #[.int .u8 0] (n * 1)).toList = _
  rw [toList_madeCells_one, Nat.mul_one]
  simp [u8s]
theorem u8s_set (l : List UInt8) (i : Nat) (b : UInt8) : (u8s l).set i (.int .u8 b.toNat) = u8s (l.set i b) := by simp [u8s, List.map_set]
theorem ofNat_toNat {n : Nat} (h : n < 256) : (UInt8.ofNat n).toNat = n := by simp; omega

theorem bits_fn (f : Int) (M : Mem) : Fn Try.prog 60 [.int .i64 f] [] M fun v S' M' => ∃ g c, v = rowV (some g) (bitsOf f).length c ∧ S' = [] ∧ Mle M M' ∧ Cells M' g 0 (bitCells (bitsOf f)) ∧ (bitsOf f).length ≤ c := by
  refine Fn.enter (E := [(0, _)]) Try.func60 rfl Try.ntmps60 rfl rfl fun w0 => ?_
  have done : ∀ {l : List Nat} {cs : List Value}, bitsOf f = l → bitCells l = cs → bitCells (bitsOf f) = cs := by intro l cs h1 h2; rw [h1]; exact h2
  repeat' (first | (refine WL.p rfl rfl rfl rfl rfl ?_) | (refine WL.nil ?_) | (refine R.region ?_) | (refine R.seq ?_) | (refine WL.i64 rfl rfl rfl rfl (by omega) ?_) | (refine WL.lb rfl rfl rfl rfl rfl rfl (by repeat constructor) (by rfl) ?_) | (refine WL.yes rfl rfl rfl rfl ?_) | (refine WL.no rfl rfl rfl rfl rfl rfl rfl ?_) | (refine R.block ?_) | (refine R.blk ?_) | (refine R.skip ?_) | (refine R.exit rfl ?_) | (refine R.condT rfl ?_) | (refine R.condF rfl ?_) | (refine R.ret ?_) | (refine WL.al rfl rfl rfl rfl rfl rfl ?_; intro b) | (refine WL.bx rfl rfl rfl rfl rfl rfl ?_; intro b) | (refine WL.sb rfl rfl rfl rfl rfl rfl rfl rfl rfl (by repeat constructor) (by rfl) ?_) | (refine WL.bd rfl rfl rfl rfl rfl ?_) | (refine WL.bs rfl rfl rfl rfl rfl rfl rfl rfl ?_; intro g) | (refine R.scope ?_) | (refine R.label ?_) | ((refine WL.gdP rfl rfl rfl rfl ?_ ?_) <;> intro hg <;> (try (exfalso; omega))) | ((refine WL.gdN rfl rfl rfl rfl ?_ ?_) <;> intro hg <;> (try (exfalso; omega))) | ((refine WL.gd rfl rfl rfl rfl ?_ ?_) <;> intro hg) | ((refine R.condP rfl ?_ ?_) <;> intro hc <;> (try (exfalso; omega))) | ((refine R.condN rfl ?_ ?_) <;> intro hc <;> (try (exfalso; omega))) | ((refine R.cond rfl ?_ ?_) <;> intro hc))
  all_goals refine R.freezeRow Pull.here fun M1 m1 c0 => ?_
  all_goals first
    | (subst hc; exact R.ret1 rfl rfl (List.nil_sublist _) fun _ => ⟨_, _, rfl, rfl, m1, (c0.2.2 _ rfl (.inl (by decide))).2, by decide⟩)
    | (have hb : bitsOf f = [8] := by (unfold bitsOf; simp only [*, if_false])
       refine R.ret1 rfl rfl (List.nil_sublist _) fun _ => ?_
       rw [hb]
       exact ⟨_, _, rfl, rfl, m1, (c0.2.2 _ rfl (.inl (by decide))).2, by decide⟩)

theorem num_drop {p : List UInt8} {j : Nat} (h : j < p.length) : num (p.drop j) = num (p.drop (j + 1)) * 256 + p[j].toNat := by
  rw [List.drop_eq_getElem_cons h, num]; omega
theorem num_lt4 {p : List UInt8} {n : Nat} (hl : p.length ≤ 4) (j : Nat) : num (p.drop j) < 4294967296 := by
  refine Nat.lt_of_lt_of_le (num_lt _) (Nat.le_trans (Nat.pow_le_pow_right (by decide) (?_ : _ ≤ 4)) (by decide))
  rw [List.length_drop]; omega
/-- A pixel as it lies in memory. -/
structure PX where
  ao : Option Addr
  cap : Nat
  B : List UInt8
def PX.v (p : PX) : Value := .slice p.ao p.B.length p.cap
def PX.ok (M : Mem) (sz : Nat) (p : PX) : Prop := SlM M p.ao p.B.length p.cap (u8s p.B) ∧ p.B.length = sz
def sumR (ns : List Nat) (at_ k t : Nat) : Nat := ((ns.take t).map fun n => n / 2 ^ at_ % 2 ^ k).sum
theorem sumR_succ (ns : List Nat) (at_ k : Nat) {t : Nat} (h : t < ns.length) : sumR ns at_ k (t + 1) = sumR ns at_ k t + ns[t] / 2 ^ at_ % 2 ^ k := by
  rw [sumR, sumR, List.take_succ_eq_append_getElem h]
  simp only [List.map_append, List.map_cons, List.map_nil, List.sum_append, List.sum_cons, List.sum_nil]
  omega
theorem sumR_end (ns : List Nat) (at_ k : Nat) : (sumR ns at_ k ns.length + ns.length / 2) / ns.length = chMean ns at_ k := by
  rw [sumR, List.take_length, chMean]
theorem sumR_le (ns : List Nat) (at_ k t : Nat) (ht : t ≤ ns.length) : sumR ns at_ k t ≤ ns.length * 2 ^ k := by
  have := sum_le (ns.take t) at_ k
  rw [List.length_take, Nat.min_eq_left ht] at this
  have h2 : t * (2 ^ k - 1) ≤ ns.length * 2 ^ k := Nat.mul_le_mul ht (Nat.sub_le _ _)
  unfold sumR
  omega

theorem mean_fn (f : Int) (hf : 1 ≤ f ∧ f ≤ 7) (ps : List PX) (hp1 : 1 ≤ ps.length) (hp4 : ps.length ≤ 4) (la : Option Addr) (lcap : Nat) (M : Mem) (hl : SlM M la ps.length lcap (ps.map PX.v)) (hps : ∀ p ∈ ps, p.ok M (szOf f)) :
    Fn Try.prog 38 [.int .i64 f, .slice la ps.length lcap] [] M fun v S' M' => ∃ g c, v = rowV (some g) (szOf f) c ∧ S' = [.row (some g) c 5 1 (szOf f) (u8s (meanB (szOf f) (bitsOf f) (ps.map PX.B)))] ∧ Mle M M' := by
  obtain ⟨hsum, hz1, hz4, hbits, hblen, hszI⟩ := bits_ok f hf
  generalize hsz : szOf f = sz at *
  obtain ⟨lb, lo, rfl, hlc⟩ := hl.some (by omega)
  have hns : ((ps.map PX.B).map num).length = ps.length := by rw [List.length_map, List.length_map]
  have hnt : ∀ t, (h : t < ps.length) → ((ps.map PX.B).map num)[t]'(by rw [hns]; exact h) = num ps[t].B := fun t h => by simp
  rw [meanB]
  generalize hnsd : (ps.map PX.B).map num = ns at hns hnt ⊢
  refine Fn.enter (E := [(0, _), (1, _)]) Try.func38 rfl Try.ntmps38 rfl rfl fun w0 => ?_
  repeat' (first | (refine WL.cv Try.call37 rfl rfl rfl rfl rfl rfl rfl rfl ((rsize_fn _ _).same (congrArg (Value.int .i64) hszI)) ?_) | (refine WL.mk (n := sz) rfl rfl rfl rfl rfl rfl rfl rfl rfl (by show 1 * sz ≤ _; omega) (by omega) ?_; intro g0) | (refine WL.p rfl rfl rfl rfl rfl ?_) | (refine WL.nil ?_) | (refine R.region ?_) | (refine R.seq ?_) | (refine WL.i64 rfl rfl rfl rfl (by omega) ?_) | (refine WL.lb rfl rfl rfl rfl rfl rfl (by repeat constructor) (by rfl) ?_) | (refine WL.yes rfl rfl rfl rfl ?_) | (refine WL.no rfl rfl rfl rfl rfl rfl rfl ?_) | (refine R.block ?_) | (refine R.blk ?_) | (refine R.skip ?_) | (refine R.exit rfl ?_) | (refine R.condT rfl ?_) | (refine R.condF rfl ?_) | (refine R.ret ?_) | (refine WL.al rfl rfl rfl rfl rfl rfl ?_; intro b) | (refine WL.bx rfl rfl rfl rfl rfl rfl ?_; intro b) | (refine WL.sb rfl rfl rfl rfl rfl rfl rfl rfl rfl (by repeat constructor) (by rfl) ?_) | (refine WL.bd rfl rfl rfl rfl rfl ?_) | (refine WL.bs rfl rfl rfl rfl rfl rfl rfl rfl ?_; intro g) | (refine R.scope ?_) | (refine R.label ?_) | ((refine WL.gdP rfl rfl rfl rfl ?_ ?_) <;> intro hg <;> (try (exfalso; omega))) | ((refine WL.gdN rfl rfl rfl rfl ?_ ?_) <;> intro hg <;> (try (exfalso; omega))) | ((refine WL.gd rfl rfl rfl rfl ?_ ?_) <;> intro hg) | ((refine R.condP rfl ?_ ?_) <;> intro hc <;> (try (exfalso; omega))) | ((refine R.condN rfl ?_ ?_) <;> intro hc <;> (try (exfalso; omega))) | ((refine R.cond rfl ?_ ?_) <;> intro hc))
  refine WL.call Try.call60 rfl rfl rfl rfl rfl rfl rfl rfl (Sin := []) rfl (bits_fn f _) ?_
  rintro v S1 M1 hm ⟨gch, cch, rfl, rfl, hm1, hcc, hcl⟩
  repeat (first | (refine WL.p rfl rfl rfl rfl rfl ?_) | (refine WL.nil ?_) | (refine R.region ?_) | (refine R.seq ?_) | (refine WL.i64 rfl rfl rfl rfl (by omega) ?_) | (refine WL.lb rfl rfl rfl rfl rfl rfl (by repeat constructor) (by rfl) ?_) | (refine WL.yes rfl rfl rfl rfl ?_) | (refine WL.no rfl rfl rfl rfl rfl rfl rfl ?_) | (refine R.block ?_) | (refine R.blk ?_) | (refine R.skip ?_) | (refine R.exit rfl ?_) | (refine R.condT rfl ?_) | (refine R.condF rfl ?_) | (refine R.ret ?_) | (refine WL.al rfl rfl rfl rfl rfl rfl ?_; intro b) | (refine WL.bx rfl rfl rfl rfl rfl rfl ?_; intro b) | (refine WL.sb rfl rfl rfl rfl rfl rfl rfl rfl rfl (by repeat constructor) (by rfl) ?_) | (refine WL.bd rfl rfl rfl rfl rfl ?_) | (refine WL.bs rfl rfl rfl rfl rfl rfl rfl rfl ?_; intro g) | (refine R.scope ?_) | (refine R.label ?_))
  refine R.perm (S2 := [.row (some g0) sz 5 1 sz (u8s (leB sz (meanT ns (bitsOf f) 0)))]) (by rw [show meanT ns (bitsOf f) 0 = 0 from rfl, ← made_zero sz]; exact List.Perm.refl _) ?_
  refine R.loop (α := Nat) (fun z => [(22, .int .i64 z), (6, .int .i64 ((bitsOf f).take z).sum), (21, .int .i64 (bitsOf f).length), (20, rowV (some gch) (bitsOf f).length cch), (5, rowV (some g0) sz sz), (0, .int .i64 f), (1, .slice (some ⟨lb, lo, none⟩) ps.length lcap)]) (fun z => [.row (some g0) sz 5 1 sz (u8s (leB sz (meanT ns (bitsOf f) z)))]) (fun _ => M1) (fun z => z ≤ (bitsOf f).length) (fun z => (bitsOf f).length - z) 0 (Nat.zero_le _) (by repeat (first | refine Sub.cons rfl ?_ | exact Sub.nil _)) (List.Sublist.refl _) rfl ?_
  rintro z J hz again
  repeat (first | (refine WL.p rfl rfl rfl rfl rfl ?_) | (refine WL.nil ?_) | (refine R.region ?_) | (refine R.seq ?_) | (refine WL.i64 rfl rfl rfl rfl (by omega) ?_) | (refine WL.lb rfl rfl rfl rfl rfl rfl (by repeat constructor) (by rfl) ?_) | (refine WL.yes rfl rfl rfl rfl ?_) | (refine WL.no rfl rfl rfl rfl rfl rfl rfl ?_) | (refine R.block ?_) | (refine R.blk ?_) | (refine R.skip ?_) | (refine R.exit rfl ?_) | (refine R.condT rfl ?_) | (refine R.condF rfl ?_) | (refine R.ret ?_) | (refine WL.al rfl rfl rfl rfl rfl rfl ?_; intro b) | (refine WL.bx rfl rfl rfl rfl rfl rfl ?_; intro b) | (refine WL.sb rfl rfl rfl rfl rfl rfl rfl rfl rfl (by repeat constructor) (by rfl) ?_) | (refine WL.bd rfl rfl rfl rfl rfl ?_) | (refine WL.bs rfl rfl rfl rfl rfl rfl rfl rfl ?_; intro g) | (refine R.scope ?_) | (refine R.label ?_))
  refine R.condP rfl (fun hlt => ?_) (fun hge => ?_)
  · have hz' : z < (bitsOf f).length := by omega
    have hcell : Cells M1 gch (0 + z) [.int .i64 (bitsOf f)[z]] := by
      intro i v hi
      cases i with
      | zero => exact hcc z v (by simpa [bitCells, hz'] using hi)
      | succ i => simp at hi
    have hk8 := hbits _ (List.getElem_mem hz')
    have hst := sum_take hz'
    have hsl := sum_take_le (bitsOf f) (z + 1)
    have hml := meanT_lt ns (bitsOf f) z
    have hms := meanT_succ ns hz'
    generalize hkk : (bitsOf f)[z] = kk at hcell hk8 hst hms ⊢
    generalize hatt : ((bitsOf f).take z).sum = att at hst hml hms ⊢
    generalize hmz : meanT ns (bitsOf f) z = mz at hml hms ⊢
    have hpk : 2 ^ kk ≤ 256 := Nat.le_trans (Nat.pow_le_pow_right (by decide) hk8.2) (by decide)
    have hpk1 : 1 ≤ 2 ^ kk := Nat.two_pow_pos kk
    have hnk : ps.length * 2 ^ kk ≤ 4 * 256 := Nat.mul_le_mul hp4 hpk
    repeat' (first | (refine WL.ix (0 + z) rfl rfl rfl rfl rfl rfl rfl rfl rfl (by omega) (by omega) (by show _ + _ * 1 = _; omega) ?_) | (refine WL.lm rfl rfl rfl rfl rfl rfl hcell (by rfl) ?_) | (refine WL.p rfl rfl rfl rfl rfl ?_) | (refine WL.nil ?_) | (refine R.region ?_) | (refine R.seq ?_) | (refine WL.i64 rfl rfl rfl rfl (by omega) ?_) | (refine WL.lb rfl rfl rfl rfl rfl rfl (by repeat constructor) (by rfl) ?_) | (refine WL.yes rfl rfl rfl rfl ?_) | (refine WL.no rfl rfl rfl rfl rfl rfl rfl ?_) | (refine R.block ?_) | (refine R.blk ?_) | (refine R.skip ?_) | (refine R.exit rfl ?_) | (refine R.condT rfl ?_) | (refine R.condF rfl ?_) | (refine R.ret ?_) | (refine WL.al rfl rfl rfl rfl rfl rfl ?_; intro b) | (refine WL.bx rfl rfl rfl rfl rfl rfl ?_; intro b) | (refine WL.sb rfl rfl rfl rfl rfl rfl rfl rfl rfl (by repeat constructor) (by rfl) ?_) | (refine WL.bd rfl rfl rfl rfl rfl ?_) | (refine WL.bs rfl rfl rfl rfl rfl rfl rfl rfl ?_; intro g) | (refine R.scope ?_) | (refine R.label ?_) | ((refine WL.gdP rfl rfl rfl rfl ?_ ?_) <;> intro hg <;> (try (exfalso; omega))) | ((refine WL.gdN rfl rfl rfl rfl ?_ ?_) <;> intro hg <;> (try (exfalso; omega))) | ((refine WL.gd rfl rfl rfl rfl ?_ ?_) <;> intro hg) | ((refine R.condP rfl ?_ ?_) <;> intro hc <;> (try (exfalso; omega))) | ((refine R.condN rfl ?_ ?_) <;> intro hc <;> (try (exfalso; omega))) | ((refine R.cond rfl ?_ ?_) <;> intro hc))
    refine R.loop (α := Nat) (fun t => [(28, .int .i64 t), (27, .int .i64 ps.length), (26, .slice (some ⟨lb, lo, none⟩) ps.length lcap), (9, .int .i64 (sumR ns att kk t)), (8, .int .i64 kk), (22, .int .i64 z), (6, .int .i64 att), (21, .int .i64 (bitsOf f).length), (20, rowV (some gch) (bitsOf f).length cch), (5, rowV (some g0) sz sz), (0, .int .i64 f), (1, .slice (some ⟨lb, lo, none⟩) ps.length lcap)]) (fun _ => [_]) (fun _ => M1) (fun t => t ≤ ps.length) (fun t => ps.length - t) 0 (Nat.zero_le _) (by repeat (first | refine Sub.cons rfl ?_ | exact Sub.nil _)) (List.Sublist.refl _) rfl ?_
    rintro t J2 ht again2
    have hs0 := sumR_le ns att kk t (by omega)
    rw [hns] at hs0
    repeat (first | (refine WL.p rfl rfl rfl rfl rfl ?_) | (refine WL.nil ?_) | (refine R.region ?_) | (refine R.seq ?_) | (refine WL.i64 rfl rfl rfl rfl (by omega) ?_) | (refine WL.lb rfl rfl rfl rfl rfl rfl (by repeat constructor) (by rfl) ?_) | (refine WL.yes rfl rfl rfl rfl ?_) | (refine WL.no rfl rfl rfl rfl rfl rfl rfl ?_) | (refine R.block ?_) | (refine R.blk ?_) | (refine R.skip ?_) | (refine R.exit rfl ?_) | (refine R.condT rfl ?_) | (refine R.condF rfl ?_) | (refine R.ret ?_) | (refine WL.al rfl rfl rfl rfl rfl rfl ?_; intro b) | (refine WL.bx rfl rfl rfl rfl rfl rfl ?_; intro b) | (refine WL.sb rfl rfl rfl rfl rfl rfl rfl rfl rfl (by repeat constructor) (by rfl) ?_) | (refine WL.bd rfl rfl rfl rfl rfl ?_) | (refine WL.bs rfl rfl rfl rfl rfl rfl rfl rfl ?_; intro g) | (refine R.scope ?_) | (refine R.label ?_))
    refine R.condP rfl (fun hlt2 => ?_) (fun hge2 => ?_)
    · have ht' : t < ps.length := by omega
      have hpc : Cells M1 lb (lo + t) [ps[t].v] := by
        intro i v hi
        cases i with
        | zero => exact (hlc.mle hm1) t v (by simpa [ht'] using hi)
        | succ i => simp at hi
      have hpx := hps _ (List.getElem_mem ht')
      have hpl := hpx.2
      have hnum := hnt t ht'
      have hss := sumR_succ ns att kk (t := t) (by omega)
      obtain ⟨pa, po, hpa, hpb⟩ := (hpx.1.mle hm1).some (by omega)
      rw [hnum] at hss
      generalize hpp : ps[t] = px at hpc hpx hpl hpa hpb hss
      obtain ⟨pao, pcap, pB⟩ := px
      simp only at hpl hpa hpb hss
      subst hpa
      change Cells M1 lb (lo + t) [.slice (some ⟨pa, po, none⟩) pB.length pcap] at hpc
      have h32 : num pB < 4294967296 := num_lt4 (n := 0) (p := pB) (by omega) 0
      repeat' (first | (refine WL.ix (lo + t) rfl rfl rfl rfl rfl rfl rfl rfl rfl (by omega) (by omega) (by show _ + _ * 1 = _; omega) ?_) | (refine WL.lm rfl rfl rfl rfl rfl rfl hpc (by rfl) ?_) | (refine WL.p rfl rfl rfl rfl rfl ?_) | (refine WL.nil ?_) | (refine R.region ?_) | (refine R.seq ?_) | (refine WL.i64 rfl rfl rfl rfl (by omega) ?_) | (refine WL.lb rfl rfl rfl rfl rfl rfl (by repeat constructor) (by rfl) ?_) | (refine WL.yes rfl rfl rfl rfl ?_) | (refine WL.no rfl rfl rfl rfl rfl rfl rfl ?_) | (refine R.block ?_) | (refine R.blk ?_) | (refine R.skip ?_) | (refine R.exit rfl ?_) | (refine R.condT rfl ?_) | (refine R.condF rfl ?_) | (refine R.ret ?_) | (refine WL.al rfl rfl rfl rfl rfl rfl ?_; intro b) | (refine WL.bx rfl rfl rfl rfl rfl rfl ?_; intro b) | (refine WL.sb rfl rfl rfl rfl rfl rfl rfl rfl rfl (by repeat constructor) (by rfl) ?_) | (refine WL.bd rfl rfl rfl rfl rfl ?_) | (refine WL.bs rfl rfl rfl rfl rfl rfl rfl rfl ?_; intro g) | (refine R.scope ?_) | (refine R.label ?_) | ((refine WL.gdP rfl rfl rfl rfl ?_ ?_) <;> intro hg <;> (try (exfalso; omega))) | ((refine WL.gdN rfl rfl rfl rfl ?_ ?_) <;> intro hg <;> (try (exfalso; omega))) | ((refine WL.gd rfl rfl rfl rfl ?_ ?_) <;> intro hg) | ((refine R.condP rfl ?_ ?_) <;> intro hc <;> (try (exfalso; omega))) | ((refine R.condN rfl ?_ ?_) <;> intro hc <;> (try (exfalso; omega))) | ((refine R.cond rfl ?_ ?_) <;> intro hc))
      refine R.same 12 (.int .i64 (num (pB.drop ((pB.length : Int) - 1 + 1).toNat))) rfl (by rw [show ((pB.length : Int) - 1 + 1).toNat = pB.length by omega, List.drop_length]; try rfl) ?_
      refine R.loop (α := Int) (fun i => [(13, .int .i64 i), (12, .int .i64 (num (pB.drop (i + 1).toNat))), (11, .slice (some ⟨pa, po, none⟩) pB.length pcap), (28, .int .i64 t), (27, .int .i64 ps.length), (26, .slice (some ⟨lb, lo, none⟩) ps.length lcap), (9, .int .i64 (sumR ns att kk t)), (8, .int .i64 kk), (22, .int .i64 z), (6, .int .i64 att), (21, .int .i64 (bitsOf f).length), (20, rowV (some gch) (bitsOf f).length cch), (5, rowV (some g0) sz sz), (0, .int .i64 f), (1, .slice (some ⟨lb, lo, none⟩) ps.length lcap)]) (fun _ => [_]) (fun _ => M1) (fun i => -1 ≤ i ∧ i < pB.length) (fun i => (i + 1).toNat) ((pB.length : Int) - 1) ⟨by omega, by omega⟩ (by repeat (first | refine Sub.cons rfl ?_ | exact Sub.nil _)) (List.Sublist.refl _) rfl ?_
      rintro i J3 ⟨hi0, hi1⟩ again3
      repeat (first | (refine WL.p rfl rfl rfl rfl rfl ?_) | (refine WL.nil ?_) | (refine R.region ?_) | (refine R.seq ?_) | (refine WL.i64 rfl rfl rfl rfl (by omega) ?_) | (refine WL.lb rfl rfl rfl rfl rfl rfl (by repeat constructor) (by rfl) ?_) | (refine WL.yes rfl rfl rfl rfl ?_) | (refine WL.no rfl rfl rfl rfl rfl rfl rfl ?_) | (refine R.block ?_) | (refine R.blk ?_) | (refine R.skip ?_) | (refine R.exit rfl ?_) | (refine R.condT rfl ?_) | (refine R.condF rfl ?_) | (refine R.ret ?_) | (refine WL.al rfl rfl rfl rfl rfl rfl ?_; intro b) | (refine WL.bx rfl rfl rfl rfl rfl rfl ?_; intro b) | (refine WL.sb rfl rfl rfl rfl rfl rfl rfl rfl rfl (by repeat constructor) (by rfl) ?_) | (refine WL.bd rfl rfl rfl rfl rfl ?_) | (refine WL.bs rfl rfl rfl rfl rfl rfl rfl rfl ?_; intro g) | (refine R.scope ?_) | (refine R.label ?_))
      refine R.condP rfl (fun hlt3 => ?_) (fun hge3 => ?_)
      · have hi' : i.toNat < pB.length := by omega
        have hu : (i - 1 + 1).toNat < pB.length := by omega
        have hd := num_drop hu
        rw [show (i - 1 + 1).toNat + 1 = (i + 1).toNat by omega] at hd
        have hdl := num_lt4 (n := 0) (p := pB) (by omega) (i - 1 + 1).toNat
        have hdl2 := num_lt4 (n := 0) (p := pB) (by omega) (i + 1).toNat
        have hbt := (pB[(i - 1 + 1).toNat]'(by omega)).toNat_lt
        have hcell3 : Cells M1 pa (po + i.toNat) [.int .u8 (pB[(i - 1 + 1).toNat]'(by omega)).toNat] := by
          intro j v hj
          cases j with
          | zero =>
            refine hpb i.toNat v ?_
            rw [u8s_get hi']
            simp only [show (i - 1 + 1).toNat = i.toNat by omega] at hj
            exact hj
          | succ j => simp at hj
        repeat' (first | (refine WL.ix (po + i.toNat) rfl rfl rfl rfl rfl rfl rfl rfl rfl (by omega) (by omega) (by show _ + _ * 1 = _; omega) ?_) | (refine WL.lm rfl rfl rfl rfl rfl rfl hcell3 (by rfl) ?_) | (refine WL.step rfl rfl rfl (Ev.asN (num (pB.drop (i - 1 + 1).toNat)) (Ev.i64 rfl (by omega)) (by omega)) ?_) | (refine WL.p rfl rfl rfl rfl rfl ?_) | (refine WL.nil ?_) | (refine R.region ?_) | (refine R.seq ?_) | (refine WL.i64 rfl rfl rfl rfl (by omega) ?_) | (refine WL.lb rfl rfl rfl rfl rfl rfl (by repeat constructor) (by rfl) ?_) | (refine WL.yes rfl rfl rfl rfl ?_) | (refine WL.no rfl rfl rfl rfl rfl rfl rfl ?_) | (refine R.block ?_) | (refine R.blk ?_) | (refine R.skip ?_) | (refine R.exit rfl ?_) | (refine R.condT rfl ?_) | (refine R.condF rfl ?_) | (refine R.ret ?_) | (refine WL.al rfl rfl rfl rfl rfl rfl ?_; intro b) | (refine WL.bx rfl rfl rfl rfl rfl rfl ?_; intro b) | (refine WL.sb rfl rfl rfl rfl rfl rfl rfl rfl rfl (by repeat constructor) (by rfl) ?_) | (refine WL.bd rfl rfl rfl rfl rfl ?_) | (refine WL.bs rfl rfl rfl rfl rfl rfl rfl rfl ?_; intro g) | (refine R.scope ?_) | (refine R.label ?_) | ((refine WL.gdP rfl rfl rfl rfl ?_ ?_) <;> intro hg <;> (try (exfalso; omega))) | ((refine WL.gdN rfl rfl rfl rfl ?_ ?_) <;> intro hg <;> (try (exfalso; omega))) | ((refine WL.gd rfl rfl rfl rfl ?_ ?_) <;> intro hg) | ((refine R.condP rfl ?_ ?_) <;> intro hc <;> (try (exfalso; omega))) | ((refine R.condN rfl ?_ ?_) <;> intro hc <;> (try (exfalso; omega))) | ((refine R.cond rfl ?_ ?_) <;> intro hc))
        exact again3 (i - 1) _ _ _ ⟨by omega, by omega⟩ (by omega) (by repeat (first | refine Sub.cons rfl ?_ | exact Sub.nil _)) (by first | apply List.Sublist.refl | apply List.nil_sublist | apply List.sublist_cons_self | (repeat (first | apply List.Sublist.refl | apply List.nil_sublist | apply List.Sublist.cons_cons | apply List.Sublist.cons))) rfl
      · have hi2 : (i + 1).toNat = 0 := by omega
        rw [hi2, List.drop_zero]
        have hmd : num pB / 2 ^ att % 2 ^ kk < 2 ^ kk := Nat.mod_lt _ hpk1
        repeat (first | (refine WL.p rfl rfl rfl rfl rfl ?_) | (refine WL.nil ?_) | (refine R.region ?_) | (refine R.seq ?_) | (refine WL.i64 rfl rfl rfl rfl (by omega) ?_) | (refine WL.lb rfl rfl rfl rfl rfl rfl (by repeat constructor) (by rfl) ?_) | (refine WL.yes rfl rfl rfl rfl ?_) | (refine WL.no rfl rfl rfl rfl rfl rfl rfl ?_) | (refine R.block ?_) | (refine R.blk ?_) | (refine R.skip ?_) | (refine R.exit rfl ?_) | (refine R.condT rfl ?_) | (refine R.condF rfl ?_) | (refine R.ret ?_) | (refine WL.al rfl rfl rfl rfl rfl rfl ?_; intro b) | (refine WL.bx rfl rfl rfl rfl rfl rfl ?_; intro b) | (refine WL.sb rfl rfl rfl rfl rfl rfl rfl rfl rfl (by repeat constructor) (by rfl) ?_) | (refine WL.bd rfl rfl rfl rfl rfl ?_) | (refine WL.bs rfl rfl rfl rfl rfl rfl rfl rfl ?_; intro g) | (refine R.scope ?_) | (refine R.label ?_))
        refine R.draw [_] (by first | apply List.Sublist.refl | apply List.nil_sublist | apply List.sublist_cons_self | (repeat (first | apply List.Sublist.refl | apply List.nil_sublist | apply List.Sublist.cons_cons | apply List.Sublist.cons))) ?_
        all_goals (refine RD.tk 0 rfl (by kernel_rfl) (by kernel_rfl) (by kernel_rfl) (.no rfl) rfl rfl (by first | exact Ev.i64 rfl (by omega) | exact Ev.shrI (a := num pB) (b := att) rfl rfl rfl (by omega) | exact Ev.asN (2 ^ kk) (Ev.shlI (a := 1) (b := kk) rfl rfl rfl (by omega) (by omega)) (by rw [Nat.one_mul]) | exact Ev.remN (a := num pB / 2 ^ att) (b := 2 ^ kk) rfl rfl rfl (by omega) | exact Ev.asN (sumR ns att kk (t + 1)) (Ev.i64 rfl (by omega)) (by omega) | exact Ev.p rfl | exact Ev.loadB rfl rfl rfl (by repeat constructor) (by rfl)) ?_)
        all_goals (refine RD.tk 1 rfl (by kernel_rfl) (by kernel_rfl) (by kernel_rfl) (.no rfl) rfl rfl (by first | exact Ev.i64 rfl (by omega) | exact Ev.shrI (a := num pB) (b := att) rfl rfl rfl (by omega) | exact Ev.asN (2 ^ kk) (Ev.shlI (a := 1) (b := kk) rfl rfl rfl (by omega) (by omega)) (by rw [Nat.one_mul]) | exact Ev.remN (a := num pB / 2 ^ att) (b := 2 ^ kk) rfl rfl rfl (by omega) | exact Ev.asN (sumR ns att kk (t + 1)) (Ev.i64 rfl (by omega)) (by omega) | exact Ev.p rfl | exact Ev.loadB rfl rfl rfl (by repeat constructor) (by rfl)) ?_)
        all_goals (refine RD.tk 2 rfl (by kernel_rfl) (by kernel_rfl) (by kernel_rfl) (.no rfl) rfl rfl (by first | exact Ev.i64 rfl (by omega) | exact Ev.shrI (a := num pB) (b := att) rfl rfl rfl (by omega) | exact Ev.asN (2 ^ kk) (Ev.shlI (a := 1) (b := kk) rfl rfl rfl (by omega) (by omega)) (by rw [Nat.one_mul]) | exact Ev.remN (a := num pB / 2 ^ att) (b := 2 ^ kk) rfl rfl rfl (by omega) | exact Ev.asN (sumR ns att kk (t + 1)) (Ev.i64 rfl (by omega)) (by omega) | exact Ev.p rfl | exact Ev.loadB rfl rfl rfl (by repeat constructor) (by rfl)) ?_)
        all_goals (refine RD.tk 3 rfl (by kernel_rfl) (by kernel_rfl) (by kernel_rfl) (.no rfl) rfl rfl (by first | exact Ev.i64 rfl (by omega) | exact Ev.shrI (a := num pB) (b := att) rfl rfl rfl (by omega) | exact Ev.asN (2 ^ kk) (Ev.shlI (a := 1) (b := kk) rfl rfl rfl (by omega) (by omega)) (by rw [Nat.one_mul]) | exact Ev.remN (a := num pB / 2 ^ att) (b := 2 ^ kk) rfl rfl rfl (by omega) | exact Ev.asN (sumR ns att kk (t + 1)) (Ev.i64 rfl (by omega)) (by omega) | exact Ev.p rfl | exact Ev.loadB rfl rfl rfl (by repeat constructor) (by rfl)) ?_)
        all_goals (refine RD.tk 4 rfl (by kernel_rfl) (by kernel_rfl) (by kernel_rfl) (.no rfl) rfl rfl (by first | exact Ev.i64 rfl (by omega) | exact Ev.shrI (a := num pB) (b := att) rfl rfl rfl (by omega) | exact Ev.asN (2 ^ kk) (Ev.shlI (a := 1) (b := kk) rfl rfl rfl (by omega) (by omega)) (by rw [Nat.one_mul]) | exact Ev.remN (a := num pB / 2 ^ att) (b := 2 ^ kk) rfl rfl rfl (by omega) | exact Ev.asN (sumR ns att kk (t + 1)) (Ev.i64 rfl (by omega)) (by omega) | exact Ev.p rfl | exact Ev.loadB rfl rfl rfl (by repeat constructor) (by rfl)) ?_)
        all_goals (refine RD.tk 5 rfl (by kernel_rfl) (by kernel_rfl) (by kernel_rfl) (.no rfl) rfl rfl (by first | exact Ev.i64 rfl (by omega) | exact Ev.shrI (a := num pB) (b := att) rfl rfl rfl (by omega) | exact Ev.asN (2 ^ kk) (Ev.shlI (a := 1) (b := kk) rfl rfl rfl (by omega) (by omega)) (by rw [Nat.one_mul]) | exact Ev.remN (a := num pB / 2 ^ att) (b := 2 ^ kk) rfl rfl rfl (by omega) | exact Ev.asN (sumR ns att kk (t + 1)) (Ev.i64 rfl (by omega)) (by omega) | exact Ev.p rfl | exact Ev.loadB rfl rfl rfl (by repeat constructor) (by rfl)) ?_)
        all_goals (refine RD.tk 6 rfl (by kernel_rfl) (by kernel_rfl) (by kernel_rfl) (.no rfl) rfl rfl (by first | exact Ev.i64 rfl (by omega) | exact Ev.shrI (a := num pB) (b := att) rfl rfl rfl (by omega) | exact Ev.asN (2 ^ kk) (Ev.shlI (a := 1) (b := kk) rfl rfl rfl (by omega) (by omega)) (by rw [Nat.one_mul]) | exact Ev.remN (a := num pB / 2 ^ att) (b := 2 ^ kk) rfl rfl rfl (by omega) | exact Ev.asN (sumR ns att kk (t + 1)) (Ev.i64 rfl (by omega)) (by omega) | exact Ev.p rfl | exact Ev.loadB rfl rfl rfl (by repeat constructor) (by rfl)) ?_)
        all_goals (refine RD.tk 7 rfl (by kernel_rfl) (by kernel_rfl) (by kernel_rfl) (.no rfl) rfl rfl (by first | exact Ev.i64 rfl (by omega) | exact Ev.shrI (a := num pB) (b := att) rfl rfl rfl (by omega) | exact Ev.asN (2 ^ kk) (Ev.shlI (a := 1) (b := kk) rfl rfl rfl (by omega) (by omega)) (by rw [Nat.one_mul]) | exact Ev.remN (a := num pB / 2 ^ att) (b := 2 ^ kk) rfl rfl rfl (by omega) | exact Ev.asN (sumR ns att kk (t + 1)) (Ev.i64 rfl (by omega)) (by omega) | exact Ev.p rfl | exact Ev.loadB rfl rfl rfl (by repeat constructor) (by rfl)) ?_)
        all_goals (refine RD.tk 8 rfl (by kernel_rfl) (by kernel_rfl) (by kernel_rfl) (.no rfl) rfl rfl (by first | exact Ev.i64 rfl (by omega) | exact Ev.shrI (a := num pB) (b := att) rfl rfl rfl (by omega) | exact Ev.asN (2 ^ kk) (Ev.shlI (a := 1) (b := kk) rfl rfl rfl (by omega) (by omega)) (by rw [Nat.one_mul]) | exact Ev.remN (a := num pB / 2 ^ att) (b := 2 ^ kk) rfl rfl rfl (by omega) | exact Ev.asN (sumR ns att kk (t + 1)) (Ev.i64 rfl (by omega)) (by omega) | exact Ev.p rfl | exact Ev.loadB rfl rfl rfl (by repeat constructor) (by rfl)) ?_)
        all_goals (refine RD.done (by kernel_rfl) ?_)
        repeat (first | (refine WL.p rfl rfl rfl rfl rfl ?_) | (refine WL.nil ?_) | (refine R.region ?_) | (refine R.seq ?_) | (refine WL.i64 rfl rfl rfl rfl (by omega) ?_) | (refine WL.lb rfl rfl rfl rfl rfl rfl (by repeat constructor) (by rfl) ?_) | (refine WL.yes rfl rfl rfl rfl ?_) | (refine WL.no rfl rfl rfl rfl rfl rfl rfl ?_) | (refine R.block ?_) | (refine R.blk ?_) | (refine R.skip ?_) | (refine R.exit rfl ?_) | (refine R.condT rfl ?_) | (refine R.condF rfl ?_) | (refine R.ret ?_) | (refine WL.al rfl rfl rfl rfl rfl rfl ?_; intro b) | (refine WL.bx rfl rfl rfl rfl rfl rfl ?_; intro b) | (refine WL.sb rfl rfl rfl rfl rfl rfl rfl rfl rfl (by repeat constructor) (by rfl) ?_) | (refine WL.bd rfl rfl rfl rfl rfl ?_) | (refine WL.bs rfl rfl rfl rfl rfl rfl rfl rfl ?_; intro g) | (refine R.scope ?_) | (refine R.label ?_))
        refine R.same 9 (.int .i64 (sumR ns att kk (t + 1))) rfl (congrArg (Value.int .i64) (by omega)) ?_
        exact again2 (t + 1) _ _ _ (by omega) (by omega) (by repeat (first | refine Sub.cons rfl ?_ | exact Sub.nil _)) (by first | apply List.Sublist.refl | apply List.nil_sublist | apply List.sublist_cons_self | (repeat (first | apply List.Sublist.refl | apply List.nil_sublist | apply List.Sublist.cons_cons | apply List.Sublist.cons))) rfl
    · obtain rfl : t = ps.length := by omega
      have hq := sumR_end ns att kk
      rw [hns] at hq
      have hqlt := chMean_lt ns att kk
      repeat' (first | (refine WL.step rfl rfl rfl (Ev.quoN (a := ps.length) (b := 2) rfl rfl rfl (by decide) (by omega)) ?_) | (refine WL.step rfl rfl rfl (Ev.asN (sumR ns att kk ps.length + ps.length / 2) (Ev.i64 rfl (by omega)) (by omega)) ?_) | (refine WL.step rfl rfl rfl (Ev.asN (chMean ns att kk) (Ev.quoN (a := sumR ns att kk ps.length + ps.length / 2) (b := ps.length) rfl rfl rfl (by omega) (by omega)) (congrArg Int.ofNat hq)) ?_) | (refine WL.p rfl rfl rfl rfl rfl ?_) | (refine WL.nil ?_) | (refine R.region ?_) | (refine R.seq ?_) | (refine WL.i64 rfl rfl rfl rfl (by omega) ?_) | (refine WL.lb rfl rfl rfl rfl rfl rfl (by repeat constructor) (by rfl) ?_) | (refine WL.yes rfl rfl rfl rfl ?_) | (refine WL.no rfl rfl rfl rfl rfl rfl rfl ?_) | (refine R.block ?_) | (refine R.blk ?_) | (refine R.skip ?_) | (refine R.exit rfl ?_) | (refine R.condT rfl ?_) | (refine R.condF rfl ?_) | (refine R.ret ?_) | (refine WL.al rfl rfl rfl rfl rfl rfl ?_; intro b) | (refine WL.bx rfl rfl rfl rfl rfl rfl ?_; intro b) | (refine WL.sb rfl rfl rfl rfl rfl rfl rfl rfl rfl (by repeat constructor) (by rfl) ?_) | (refine WL.bd rfl rfl rfl rfl rfl ?_) | (refine WL.bs rfl rfl rfl rfl rfl rfl rfl rfl ?_; intro g) | (refine R.scope ?_) | (refine R.label ?_) | ((refine WL.gdP rfl rfl rfl rfl ?_ ?_) <;> intro hg <;> (try (exfalso; omega))) | ((refine WL.gdN rfl rfl rfl rfl ?_ ?_) <;> intro hg <;> (try (exfalso; omega))) | ((refine WL.gd rfl rfl rfl rfl ?_ ?_) <;> intro hg) | ((refine R.condP rfl ?_ ?_) <;> intro hc <;> (try (exfalso; omega))) | ((refine R.condN rfl ?_ ?_) <;> intro hc <;> (try (exfalso; omega))) | ((refine R.cond rfl ?_ ?_) <;> intro hc))
      generalize chMean ns att kk = q at hqlt hms ⊢
      refine R.perm (S2 := [.row (some g0) sz 5 1 sz (u8s (leB sz (mz + q % 2 ^ 0 * 2 ^ att)))]) (by rw [show mz + q % 2 ^ 0 * 2 ^ att = mz by simp [Nat.mod_one]]) ?_
      refine R.loop (α := Nat) (fun i => [(65, .int .i64 i), (64, .int .i64 kk), (14, .int .i64 q), (8, .int .i64 kk), (22, .int .i64 z), (6, .int .i64 att), (21, .int .i64 (bitsOf f).length), (20, rowV (some gch) (bitsOf f).length cch), (5, rowV (some g0) sz sz), (0, .int .i64 f), (1, .slice (some ⟨lb, lo, none⟩) ps.length lcap)]) (fun i => [.row (some g0) sz 5 1 sz (u8s (leB sz (mz + q % 2 ^ i * 2 ^ att)))]) (fun _ => M1) (fun i => i ≤ kk) (fun i => kk - i) 0 (Nat.zero_le _) (by repeat (first | refine Sub.cons rfl ?_ | exact Sub.nil _)) (List.Sublist.refl _) rfl ?_
      rintro i J4 hi again4
      have hbit := bit_step q i
      have hmi : q % 2 ^ i < 2 ^ i := Nat.mod_lt _ (Nat.two_pow_pos i)
      have hacc : mz + q % 2 ^ i * 2 ^ att < 2 ^ (att + i) := by
        have h1 : (q % 2 ^ i + 1) * 2 ^ att ≤ 2 ^ i * 2 ^ att := Nat.mul_le_mul_right _ hmi
        rw [Nat.add_mul, Nat.one_mul, ← Nat.pow_add, Nat.add_comm i att] at h1
        omega
      repeat' (first | (refine WL.step rfl rfl rfl (Ev.shrI (a := q) (b := i) rfl rfl rfl (by omega)) ?_) | (refine WL.step rfl rfl rfl (Ev.remN (a := q / 2 ^ i) (b := 2) rfl rfl rfl (by omega)) ?_) | (refine WL.p rfl rfl rfl rfl rfl ?_) | (refine WL.nil ?_) | (refine R.region ?_) | (refine R.seq ?_) | (refine WL.i64 rfl rfl rfl rfl (by omega) ?_) | (refine WL.lb rfl rfl rfl rfl rfl rfl (by repeat constructor) (by rfl) ?_) | (refine WL.yes rfl rfl rfl rfl ?_) | (refine WL.no rfl rfl rfl rfl rfl rfl rfl ?_) | (refine R.block ?_) | (refine R.blk ?_) | (refine R.skip ?_) | (refine R.exit rfl ?_) | (refine R.condT rfl ?_) | (refine R.condF rfl ?_) | (refine R.ret ?_) | (refine WL.al rfl rfl rfl rfl rfl rfl ?_; intro b) | (refine WL.bx rfl rfl rfl rfl rfl rfl ?_; intro b) | (refine WL.sb rfl rfl rfl rfl rfl rfl rfl rfl rfl (by repeat constructor) (by rfl) ?_) | (refine WL.bd rfl rfl rfl rfl rfl ?_) | (refine WL.bs rfl rfl rfl rfl rfl rfl rfl rfl ?_; intro g) | (refine R.scope ?_) | (refine R.label ?_) | ((refine WL.gdP rfl rfl rfl rfl ?_ ?_) <;> intro hg <;> (try (exfalso; omega))) | ((refine WL.gdN rfl rfl rfl rfl ?_ ?_) <;> intro hg <;> (try (exfalso; omega))) | ((refine WL.gd rfl rfl rfl rfl ?_ ?_) <;> intro hg) | ((refine R.condP rfl ?_ ?_) <;> intro hc <;> (try (exfalso; omega))) | ((refine R.condN rfl ?_ ?_) <;> intro hc <;> (try (exfalso; omega))) | ((refine R.cond rfl ?_ ?_) <;> intro hc))
      · have hb1 : q / 2 ^ i % 2 = 1 := by omega
        rw [hb1, Nat.one_mul] at hbit
        have hp8 : att + i < 8 * sz := by omega
        have hadd := leB_add hacc hp8
        have e1 : mz + q % 2 ^ (i + 1) * 2 ^ att = mz + q % 2 ^ i * 2 ^ att + 2 ^ (att + i) := by
          rw [hbit, Nat.add_mul, ← Nat.pow_add, Nat.add_comm i att, Nat.add_assoc]
        rw [← e1] at hadd
        generalize hac : mz + q % 2 ^ i * 2 ^ att = acc at hacc hadd ⊢
        have hpr : 2 ^ ((att + i) % 8) ≤ 2 ^ 7 := Nat.pow_le_pow_right (by decide) (by omega)
        have hax : acc / 256 ^ ((att + i) / 8) < 2 ^ ((att + i) % 8) := by
          rw [Nat.div_lt_iff_lt_mul (Nat.pos_of_ne_zero (by simp)), show (256 : Nat) = 2 ^ 8 from rfl, ← Nat.pow_mul, ← Nat.pow_add]
          exact Nat.lt_of_lt_of_le hacc (Nat.pow_le_pow_right (by decide) (by omega))
        have hn1 := ofNat_toNat (n := acc / 256 ^ ((att + i) / 8)) (by omega)
        have hn2 := ofNat_toNat (n := acc / 256 ^ ((att + i) / 8) + 2 ^ ((att + i) % 8)) (by omega)
        have hq8 : (att + i) / 8 < sz := by omega
        have hys : ∀ j u, ([.int .u8 (UInt8.ofNat (acc / 256 ^ ((att + i) / 8))).toNat] : List Value)[j]? = some u → (u8s (leB sz acc))[0 + (att + i) / 8 + j]? = some u := by
          intro j u hj
          cases j with
          | zero => simpa [u8s, leB_get hq8] using hj
          | succ j => simp at hj
        have hset : setsL (0 + (att + i) / 8) [.int .u8 (UInt8.ofNat (acc / 256 ^ ((att + i) / 8) + 2 ^ ((att + i) % 8))).toNat] (u8s (leB sz acc)) = u8s (leB sz (mz + q % 2 ^ (i + 1) * 2 ^ att)) := by
          rw [hadd, ← u8s_set, Nat.zero_add]; rfl
        have hfit : 0 + (att + i) / 8 + 1 ≤ (u8s (leB sz acc)).length := by rw [u8s_length, leB_length]; omega
        generalize haq : acc / 256 ^ ((att + i) / 8) = aq at *
        repeat (first | (refine WL.p rfl rfl rfl rfl rfl ?_) | (refine WL.nil ?_) | (refine R.region ?_) | (refine R.seq ?_) | (refine WL.i64 rfl rfl rfl rfl (by omega) ?_) | (refine WL.lb rfl rfl rfl rfl rfl rfl (by repeat constructor) (by rfl) ?_) | (refine WL.yes rfl rfl rfl rfl ?_) | (refine WL.no rfl rfl rfl rfl rfl rfl rfl ?_) | (refine R.block ?_) | (refine R.blk ?_) | (refine R.skip ?_) | (refine R.exit rfl ?_) | (refine R.condT rfl ?_) | (refine R.condF rfl ?_) | (refine R.ret ?_) | (refine WL.al rfl rfl rfl rfl rfl rfl ?_; intro b) | (refine WL.bx rfl rfl rfl rfl rfl rfl ?_; intro b) | (refine WL.sb rfl rfl rfl rfl rfl rfl rfl rfl rfl (by repeat constructor) (by rfl) ?_) | (refine WL.bd rfl rfl rfl rfl rfl ?_) | (refine WL.bs rfl rfl rfl rfl rfl rfl rfl rfl ?_; intro g) | (refine R.scope ?_) | (refine R.label ?_))
        refine R.draw [] (by first | apply List.Sublist.refl | apply List.nil_sublist | apply List.sublist_cons_self | (repeat (first | apply List.Sublist.refl | apply List.nil_sublist | apply List.Sublist.cons_cons | apply List.Sublist.cons))) ?_
        all_goals (refine RD.tk 0 rfl (by kernel_rfl) (by kernel_rfl) (by kernel_rfl) (.no rfl) rfl rfl (by first | exact Ev.i64 rfl (by omega) | exact Ev.quoN (a := att + i) (b := 8) rfl rfl rfl (by decide) (by omega) | exact Ev.remN (a := att + i) (b := 8) rfl rfl rfl (by decide) | exact Ev.index (j := 0 + (att + i) / 8) rfl rfl rfl rfl rfl rfl (by omega) (by omega) (by show _ + _ * 1 = _; omega) | exact Ev.asN (2 ^ ((att + i) % 8)) (Ev.shlB (a := 1) (b := (att + i) % 8) rfl rfl rfl (by omega) (by omega)) (by rw [Nat.one_mul]) | exact Ev.asN (UInt8.ofNat (aq + 2 ^ ((att + i) % 8))).toNat (Ev.u8 rfl (by omega)) (by omega) | exact Ev.p rfl | exact Ev.loadB rfl rfl rfl (by repeat constructor) (by rfl)) ?_)
        all_goals (refine RD.tk 1 rfl (by kernel_rfl) (by kernel_rfl) (by kernel_rfl) (.no rfl) rfl rfl (by first | exact Ev.i64 rfl (by omega) | exact Ev.quoN (a := att + i) (b := 8) rfl rfl rfl (by decide) (by omega) | exact Ev.remN (a := att + i) (b := 8) rfl rfl rfl (by decide) | exact Ev.index (j := 0 + (att + i) / 8) rfl rfl rfl rfl rfl rfl (by omega) (by omega) (by show _ + _ * 1 = _; omega) | exact Ev.asN (2 ^ ((att + i) % 8)) (Ev.shlB (a := 1) (b := (att + i) % 8) rfl rfl rfl (by omega) (by omega)) (by rw [Nat.one_mul]) | exact Ev.asN (UInt8.ofNat (aq + 2 ^ ((att + i) % 8))).toNat (Ev.u8 rfl (by omega)) (by omega) | exact Ev.p rfl | exact Ev.loadB rfl rfl rfl (by repeat constructor) (by rfl)) ?_)
        all_goals (refine RD.tk 2 rfl (by kernel_rfl) (by kernel_rfl) (by kernel_rfl) (.no rfl) rfl rfl (by first | exact Ev.i64 rfl (by omega) | exact Ev.quoN (a := att + i) (b := 8) rfl rfl rfl (by decide) (by omega) | exact Ev.remN (a := att + i) (b := 8) rfl rfl rfl (by decide) | exact Ev.index (j := 0 + (att + i) / 8) rfl rfl rfl rfl rfl rfl (by omega) (by omega) (by show _ + _ * 1 = _; omega) | exact Ev.asN (2 ^ ((att + i) % 8)) (Ev.shlB (a := 1) (b := (att + i) % 8) rfl rfl rfl (by omega) (by omega)) (by rw [Nat.one_mul]) | exact Ev.asN (UInt8.ofNat (aq + 2 ^ ((att + i) % 8))).toNat (Ev.u8 rfl (by omega)) (by omega) | exact Ev.p rfl | exact Ev.loadB rfl rfl rfl (by repeat constructor) (by rfl)) ?_)
        all_goals (refine RD.tk 3 rfl (by kernel_rfl) (by kernel_rfl) (by kernel_rfl) (.no rfl) rfl rfl (by first | exact Ev.i64 rfl (by omega) | exact Ev.quoN (a := att + i) (b := 8) rfl rfl rfl (by decide) (by omega) | exact Ev.remN (a := att + i) (b := 8) rfl rfl rfl (by decide) | exact Ev.index (j := 0 + (att + i) / 8) rfl rfl rfl rfl rfl rfl (by omega) (by omega) (by show _ + _ * 1 = _; omega) | exact Ev.asN (2 ^ ((att + i) % 8)) (Ev.shlB (a := 1) (b := (att + i) % 8) rfl rfl rfl (by omega) (by omega)) (by rw [Nat.one_mul]) | exact Ev.asN (UInt8.ofNat (aq + 2 ^ ((att + i) % 8))).toNat (Ev.u8 rfl (by omega)) (by omega) | exact Ev.p rfl | exact Ev.loadB rfl rfl rfl (by repeat constructor) (by rfl)) ?_)
        all_goals (refine RD.tk 4 rfl (by kernel_rfl) (by kernel_rfl) (by kernel_rfl) (.no rfl) rfl rfl (by first | exact Ev.i64 rfl (by omega) | exact Ev.quoN (a := att + i) (b := 8) rfl rfl rfl (by decide) (by omega) | exact Ev.remN (a := att + i) (b := 8) rfl rfl rfl (by decide) | exact Ev.index (j := 0 + (att + i) / 8) rfl rfl rfl rfl rfl rfl (by omega) (by omega) (by show _ + _ * 1 = _; omega) | exact Ev.asN (2 ^ ((att + i) % 8)) (Ev.shlB (a := 1) (b := (att + i) % 8) rfl rfl rfl (by omega) (by omega)) (by rw [Nat.one_mul]) | exact Ev.asN (UInt8.ofNat (aq + 2 ^ ((att + i) % 8))).toNat (Ev.u8 rfl (by omega)) (by omega) | exact Ev.p rfl | exact Ev.loadB rfl rfl rfl (by repeat constructor) (by rfl)) ?_)
        all_goals (refine RD.tk 5 rfl (by kernel_rfl) (by kernel_rfl) (by kernel_rfl) (.no rfl) rfl rfl (by first | exact Ev.i64 rfl (by omega) | exact Ev.quoN (a := att + i) (b := 8) rfl rfl rfl (by decide) (by omega) | exact Ev.remN (a := att + i) (b := 8) rfl rfl rfl (by decide) | exact Ev.index (j := 0 + (att + i) / 8) rfl rfl rfl rfl rfl rfl (by omega) (by omega) (by show _ + _ * 1 = _; omega) | exact Ev.asN (2 ^ ((att + i) % 8)) (Ev.shlB (a := 1) (b := (att + i) % 8) rfl rfl rfl (by omega) (by omega)) (by rw [Nat.one_mul]) | exact Ev.asN (UInt8.ofNat (aq + 2 ^ ((att + i) % 8))).toNat (Ev.u8 rfl (by omega)) (by omega) | exact Ev.p rfl | exact Ev.loadB rfl rfl rfl (by repeat constructor) (by rfl)) ?_)
        all_goals (refine RD.tk 7 rfl (by kernel_rfl) (by kernel_rfl) (by kernel_rfl) (.no rfl) rfl rfl (by first | exact Ev.i64 rfl (by omega) | exact Ev.quoN (a := att + i) (b := 8) rfl rfl rfl (by decide) (by omega) | exact Ev.remN (a := att + i) (b := 8) rfl rfl rfl (by decide) | exact Ev.index (j := 0 + (att + i) / 8) rfl rfl rfl rfl rfl rfl (by omega) (by omega) (by show _ + _ * 1 = _; omega) | exact Ev.asN (2 ^ ((att + i) % 8)) (Ev.shlB (a := 1) (b := (att + i) % 8) rfl rfl rfl (by omega) (by omega)) (by rw [Nat.one_mul]) | exact Ev.asN (UInt8.ofNat (aq + 2 ^ ((att + i) % 8))).toNat (Ev.u8 rfl (by omega)) (by omega) | exact Ev.p rfl | exact Ev.loadB rfl rfl rfl (by repeat constructor) (by rfl)) ?_)
        all_goals (refine RD.tk 8 rfl (by kernel_rfl) (by kernel_rfl) (by kernel_rfl) (.no rfl) rfl rfl (by first | exact Ev.i64 rfl (by omega) | exact Ev.quoN (a := att + i) (b := 8) rfl rfl rfl (by decide) (by omega) | exact Ev.remN (a := att + i) (b := 8) rfl rfl rfl (by decide) | exact Ev.index (j := 0 + (att + i) / 8) rfl rfl rfl rfl rfl rfl (by omega) (by omega) (by show _ + _ * 1 = _; omega) | exact Ev.asN (2 ^ ((att + i) % 8)) (Ev.shlB (a := 1) (b := (att + i) % 8) rfl rfl rfl (by omega) (by omega)) (by rw [Nat.one_mul]) | exact Ev.asN (UInt8.ofNat (aq + 2 ^ ((att + i) % 8))).toNat (Ev.u8 rfl (by omega)) (by omega) | exact Ev.p rfl | exact Ev.loadB rfl rfl rfl (by repeat constructor) (by rfl)) ?_)
        all_goals (refine RD.tk 9 rfl (by kernel_rfl) (by kernel_rfl) (by kernel_rfl) (.no rfl) rfl rfl (by first | exact Ev.i64 rfl (by omega) | exact Ev.quoN (a := att + i) (b := 8) rfl rfl rfl (by decide) (by omega) | exact Ev.remN (a := att + i) (b := 8) rfl rfl rfl (by decide) | exact Ev.index (j := 0 + (att + i) / 8) rfl rfl rfl rfl rfl rfl (by omega) (by omega) (by show _ + _ * 1 = _; omega) | exact Ev.asN (2 ^ ((att + i) % 8)) (Ev.shlB (a := 1) (b := (att + i) % 8) rfl rfl rfl (by omega) (by omega)) (by rw [Nat.one_mul]) | exact Ev.asN (UInt8.ofNat (aq + 2 ^ ((att + i) % 8))).toNat (Ev.u8 rfl (by omega)) (by omega) | exact Ev.p rfl | exact Ev.loadB rfl rfl rfl (by repeat constructor) (by rfl)) ?_)
        all_goals (refine RD.tk 10 rfl (by kernel_rfl) (by kernel_rfl) (by kernel_rfl) (.no rfl) rfl rfl (by first | exact Ev.i64 rfl (by omega) | exact Ev.quoN (a := att + i) (b := 8) rfl rfl rfl (by decide) (by omega) | exact Ev.remN (a := att + i) (b := 8) rfl rfl rfl (by decide) | exact Ev.index (j := 0 + (att + i) / 8) rfl rfl rfl rfl rfl rfl (by omega) (by omega) (by show _ + _ * 1 = _; omega) | exact Ev.asN (2 ^ ((att + i) % 8)) (Ev.shlB (a := 1) (b := (att + i) % 8) rfl rfl rfl (by omega) (by omega)) (by rw [Nat.one_mul]) | exact Ev.asN (UInt8.ofNat (aq + 2 ^ ((att + i) % 8))).toNat (Ev.u8 rfl (by omega)) (by omega) | exact Ev.p rfl | exact Ev.loadB rfl rfl rfl (by repeat constructor) (by rfl)) ?_)
        all_goals (refine RD.tk 11 rfl (by kernel_rfl) (by kernel_rfl) (by kernel_rfl) (.no rfl) rfl rfl (by first | exact Ev.i64 rfl (by omega) | exact Ev.quoN (a := att + i) (b := 8) rfl rfl rfl (by decide) (by omega) | exact Ev.remN (a := att + i) (b := 8) rfl rfl rfl (by decide) | exact Ev.index (j := 0 + (att + i) / 8) rfl rfl rfl rfl rfl rfl (by omega) (by omega) (by show _ + _ * 1 = _; omega) | exact Ev.asN (2 ^ ((att + i) % 8)) (Ev.shlB (a := 1) (b := (att + i) % 8) rfl rfl rfl (by omega) (by omega)) (by rw [Nat.one_mul]) | exact Ev.asN (UInt8.ofNat (aq + 2 ^ ((att + i) % 8))).toNat (Ev.u8 rfl (by omega)) (by omega) | exact Ev.p rfl | exact Ev.loadB rfl rfl rfl (by repeat constructor) (by rfl)) ?_)
        all_goals (first | (refine RD.o1 6 rfl (by kernel_rfl) (.no rfl) rfl rfl (by first | exact Ev.i64 rfl (by omega) | exact Ev.quoN (a := att + i) (b := 8) rfl rfl rfl (by decide) (by omega) | exact Ev.remN (a := att + i) (b := 8) rfl rfl rfl (by decide) | exact Ev.index (j := 0 + (att + i) / 8) rfl rfl rfl rfl rfl rfl (by omega) (by omega) (by show _ + _ * 1 = _; omega) | exact Ev.asN (2 ^ ((att + i) % 8)) (Ev.shlB (a := 1) (b := (att + i) % 8) rfl rfl rfl (by omega) (by omega)) (by rw [Nat.one_mul]) | exact Ev.asN (UInt8.ofNat (aq + 2 ^ ((att + i) % 8))).toNat (Ev.u8 rfl (by omega)) (by omega) | exact Ev.p rfl | exact Ev.loadB rfl rfl rfl (by repeat constructor) (by rfl)) ?_) | (refine RD.o1 6 rfl (by kernel_rfl) (.no rfl) rfl rfl (Ev.loadR rfl rfl rfl (by repeat constructor) hys (by rfl)) ?_))
        all_goals (refine RD.tk 12 rfl (by kernel_rfl) (by kernel_rfl) (by kernel_rfl) (.no rfl) rfl rfl (by first | exact Ev.i64 rfl (by omega) | exact Ev.quoN (a := att + i) (b := 8) rfl rfl rfl (by decide) (by omega) | exact Ev.remN (a := att + i) (b := 8) rfl rfl rfl (by decide) | exact Ev.index (j := 0 + (att + i) / 8) rfl rfl rfl rfl rfl rfl (by omega) (by omega) (by show _ + _ * 1 = _; omega) | exact Ev.asN (2 ^ ((att + i) % 8)) (Ev.shlB (a := 1) (b := (att + i) % 8) rfl rfl rfl (by omega) (by omega)) (by rw [Nat.one_mul]) | exact Ev.asN (UInt8.ofNat (aq + 2 ^ ((att + i) % 8))).toNat (Ev.u8 rfl (by omega)) (by omega) | exact Ev.p rfl | exact Ev.loadB rfl rfl rfl (by repeat constructor) (by rfl)) ?_)
        all_goals (refine RD.tk 13 rfl (by kernel_rfl) (by kernel_rfl) (by kernel_rfl) (.no rfl) rfl rfl (by first | exact Ev.i64 rfl (by omega) | exact Ev.quoN (a := att + i) (b := 8) rfl rfl rfl (by decide) (by omega) | exact Ev.remN (a := att + i) (b := 8) rfl rfl rfl (by decide) | exact Ev.index (j := 0 + (att + i) / 8) rfl rfl rfl rfl rfl rfl (by omega) (by omega) (by show _ + _ * 1 = _; omega) | exact Ev.asN (2 ^ ((att + i) % 8)) (Ev.shlB (a := 1) (b := (att + i) % 8) rfl rfl rfl (by omega) (by omega)) (by rw [Nat.one_mul]) | exact Ev.asN (UInt8.ofNat (aq + 2 ^ ((att + i) % 8))).toNat (Ev.u8 rfl (by omega)) (by omega) | exact Ev.p rfl | exact Ev.loadB rfl rfl rfl (by repeat constructor) (by rfl)) ?_)
        all_goals (first | (refine RD.o2 14 rfl (by kernel_rfl) (.no rfl) (OpW.storeR (us := [.int .u8 (UInt8.ofNat (aq + 2 ^ ((att + i) % 8))).toNat]) rfl rfl rfl rfl rfl rfl rfl rfl hfit (by repeat constructor)) ?_; rintro _ _ _ ⟨rfl, rfl, rfl⟩; refine ⟨List.nil_sublist _, Mle.refl _, ?_⟩) | (refine RD.sb 14 rfl (by kernel_rfl) (.no rfl) rfl rfl rfl rfl rfl rfl rfl rfl (by repeat constructor) (by rfl) (by first | apply List.Sublist.refl | apply List.nil_sublist | apply List.sublist_cons_self | (repeat (first | apply List.Sublist.refl | apply List.nil_sublist | apply List.Sublist.cons_cons | apply List.Sublist.cons))) (by first | exact Mle.refl _ | assumption) ?_))
        all_goals (refine RD.done (by kernel_rfl) ?_)
        rw [hset]
        repeat (first | (refine WL.p rfl rfl rfl rfl rfl ?_) | (refine WL.nil ?_) | (refine R.region ?_) | (refine R.seq ?_) | (refine WL.i64 rfl rfl rfl rfl (by omega) ?_) | (refine WL.lb rfl rfl rfl rfl rfl rfl (by repeat constructor) (by rfl) ?_) | (refine WL.yes rfl rfl rfl rfl ?_) | (refine WL.no rfl rfl rfl rfl rfl rfl rfl ?_) | (refine R.block ?_) | (refine R.blk ?_) | (refine R.skip ?_) | (refine R.exit rfl ?_) | (refine R.condT rfl ?_) | (refine R.condF rfl ?_) | (refine R.ret ?_) | (refine WL.al rfl rfl rfl rfl rfl rfl ?_; intro b) | (refine WL.bx rfl rfl rfl rfl rfl rfl ?_; intro b) | (refine WL.sb rfl rfl rfl rfl rfl rfl rfl rfl rfl (by repeat constructor) (by rfl) ?_) | (refine WL.bd rfl rfl rfl rfl rfl ?_) | (refine WL.bs rfl rfl rfl rfl rfl rfl rfl rfl ?_; intro g) | (refine R.scope ?_) | (refine R.label ?_))
        exact again4 (i + 1) _ _ _ (by omega) (by omega) (by repeat (first | refine Sub.cons rfl ?_ | exact Sub.nil _)) (by first | apply List.Sublist.refl | apply List.nil_sublist | apply List.sublist_cons_self | (repeat (first | apply List.Sublist.refl | apply List.nil_sublist | apply List.Sublist.cons_cons | apply List.Sublist.cons))) rfl
      · have hb0 : q / 2 ^ i % 2 = 0 := by omega
        have hbit' : q % 2 ^ (i + 1) = q % 2 ^ i := by rw [hb0] at hbit; omega
        rw [← hbit']
        exact again4 (i + 1) _ _ _ (by omega) (by omega) (by repeat (first | refine Sub.cons rfl ?_ | exact Sub.nil _)) (by first | apply List.Sublist.refl | apply List.nil_sublist | apply List.sublist_cons_self | (repeat (first | apply List.Sublist.refl | apply List.nil_sublist | apply List.Sublist.cons_cons | apply List.Sublist.cons))) rfl
      · obtain rfl : i = kk := by omega
        rw [Nat.mod_eq_of_lt hqlt, ← hms]
        refine R.same 6 (.int .i64 ((bitsOf f).take (z + 1)).sum) rfl (congrArg (Value.int .i64) (by omega)) ?_
        exact again (z + 1) _ _ _ (by omega) (by omega) (by repeat (first | refine Sub.cons rfl ?_ | exact Sub.nil _)) (by first | apply List.Sublist.refl | apply List.nil_sublist | apply List.sublist_cons_self | (repeat (first | apply List.Sublist.refl | apply List.nil_sublist | apply List.Sublist.cons_cons | apply List.Sublist.cons))) rfl
  · obtain rfl : z = (bitsOf f).length := by omega
    rw [meanT_end]
    repeat (first | (refine WL.p rfl rfl rfl rfl rfl ?_) | (refine WL.nil ?_) | (refine R.region ?_) | (refine R.seq ?_) | (refine WL.i64 rfl rfl rfl rfl (by omega) ?_) | (refine WL.lb rfl rfl rfl rfl rfl rfl (by repeat constructor) (by rfl) ?_) | (refine WL.yes rfl rfl rfl rfl ?_) | (refine WL.no rfl rfl rfl rfl rfl rfl rfl ?_) | (refine R.block ?_) | (refine R.blk ?_) | (refine R.skip ?_) | (refine R.exit rfl ?_) | (refine R.condT rfl ?_) | (refine R.condF rfl ?_) | (refine R.ret ?_) | (refine WL.al rfl rfl rfl rfl rfl rfl ?_; intro b) | (refine WL.bx rfl rfl rfl rfl rfl rfl ?_; intro b) | (refine WL.sb rfl rfl rfl rfl rfl rfl rfl rfl rfl (by repeat constructor) (by rfl) ?_) | (refine WL.bd rfl rfl rfl rfl rfl ?_) | (refine WL.bs rfl rfl rfl rfl rfl rfl rfl rfl ?_; intro g) | (refine R.scope ?_) | (refine R.label ?_))
    exact R.ret1 rfl rfl (List.Sublist.refl _) fun hm => ⟨g0, sz, rfl, rfl, hm⟩
end Go.Proofs.Ytaaiimlaklpjpaa
