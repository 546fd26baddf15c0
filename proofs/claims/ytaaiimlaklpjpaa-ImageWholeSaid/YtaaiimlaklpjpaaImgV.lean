/- What a generated image is: plain Lean. No condition. -/
import Derived.Test.YtaaiimlaklpjpaaImgU
namespace Go.Proofs.Ytaaiimlaklpjpaa
open Go
set_option linter.unusedVariables false
set_option linter.unusedSimpArgs false

def lvDim (W H k : Nat) : Int × Int := (((max (W / 2 ^ k) 1 : Nat) : Int), ((max (H / 2 ^ k) 1 : Nat) : Int))
theorem nextW_pow (w k : Nat) (h : 1 ≤ w) : max (nextW w / 2 ^ k) 1 = max (w / 2 ^ (k + 1)) 1 := by
  unfold nextW
  rw [Nat.pow_succ, Nat.mul_comm, ← Nat.div_div_eq_div_mul]
  rcases Nat.lt_or_ge w 2 with h2 | h2
  · have hw : w = 1 := by omega
    subst hw
    have h1 : 1 / 2 = 0 := rfl
    rw [h1, Nat.zero_div]
    have : 1 / 2 ^ k ≤ 1 := Nat.div_le_self _ _
    simp only [Nat.zero_max]
    omega
  · rw [show max (w / 2) 1 = w / 2 from Nat.max_eq_left (by omega)]
theorem gens_spec (f : Int) (hf : 1 ≤ f ∧ f ≤ 7) : ∀ (n W H : Nat) (B : List UInt8), (W - 1) + (H - 1) ≤ n → (1 ≤ W ∧ W ≤ 64) → (1 ≤ H ∧ H ≤ 64) → powB W = true → powB H = true → B.length = W * H * szOf f →
    (gens f W H B).length = lg (max W H) ∧ ∀ k l, (gens f W H B)[k]? = some l → (l.1, l.2.1) = lvDim W H (k + 1) ∧ (l.2.2.length : Int) = l.1 * l.2.1 * szOf f
  | n, W, H, B, hn, hW, hH, pW, pH, hB => by
    by_cases h11 : W ≤ 1 ∧ H ≤ 1
    · rw [gens_end h11]
      refine ⟨?_, fun k l h => by simp at h⟩
      rw [show max W H = 1 by omega]; rfl
    · rw [gens_more h11]
      have nW := nextW_bd hW
      have nH := nextW_bd hH
      cases n with
      | zero => exact absurd (by omega) h11
      | succ n =>
        have hl := halfB_length (szOf f) (bitsOf f) W H B (nextW H)
        rw [Nat.mul_comm (nextW H)] at hl
        have ih := gens_spec f hf n (nextW W) (nextW H) (halfB (szOf f) (bitsOf f) W H B (nextW H)) (by omega) ⟨nW.1, nW.2.1⟩ ⟨nH.1, nH.2.1⟩ (powB_next W (by omega) pW) (powB_next H (by omega) pH) hl
        have hmx : max (nextW W) (nextW H) = max W H / 2 := by unfold nextW; omega
        have hlg := lg_half (max W H) (by omega) (by omega)
        refine ⟨by rw [List.length_cons, ih.1, hmx, hlg], fun k l hk => ?_⟩
        cases k with
        | zero =>
          simp only [List.getElem?_cons_zero, Option.some.injEq] at hk
          subst hk
          refine ⟨?_, ?_⟩
          · have e1 := nextW_pow W 0 hW.1
            have e2 := nextW_pow H 0 hH.1
            simp only [Nat.pow_zero, Nat.div_one] at e1 e2
            simp only [lvDim, ← e1, ← e2]
            rw [Nat.max_eq_left nW.1, Nat.max_eq_left nH.1]
          · simp only []
            rw [hl]
            push_cast
            rfl
        | succ k =>
          simp only [List.getElem?_cons_succ] at hk
          obtain ⟨h1, h2⟩ := ih.2 k l hk
          refine ⟨?_, h2⟩
          rw [h1]
          simp only [lvDim, nextW_pow W (k + 1) hW.1, nextW_pow H (k + 1) hH.1]

theorem noneP_no {l : PL} (h : 1 ≤ l.1) : noneP l = false := by
  unfold noneP noneB
  rw [show decide (l.1 = 0) = false from decide_eq_false (by omega)]; rfl
theorem badP_no {sz : Int} {l : PL} (h1 : 1 ≤ l.1 ∧ l.1 ≤ 64) (h2 : 1 ≤ l.2.1 ∧ l.2.1 ≤ 64) (h3 : (l.2.2.length : Int) = l.1 * l.2.1 * sz) : badP sz l = false := by
  unfold badP badL
  rw [sideB_yes h1, sideB_yes h2]
  simp [h3]
/-- What is known of an image of which all levels were made. -/
structure Gen (p q : PI) (W H : Nat) (B : List UInt8) : Prop where
  q : q = { p with lv := (↑W, ↑H, B) :: gens p.f W H B }
  head : ∃ t, p.lv = (↑W, ↑H, B) :: t
  f : 1 ≤ p.f ∧ p.f ≤ 7
  w : 1 ≤ W ∧ W ≤ 64
  h : 1 ≤ H ∧ H ≤ 64
  pw : powB W = true
  ph : powB H = true
  len : B.length = W * H * szOf p.f
  right : rightP p = true
theorem genP_ok {p q : PI} (h : genP p = .ok q) : ∃ W H B, Gen p q W H B := by
  unfold genP at h
  split at h
  · rename_i hr
    have R0 := RightP.of hr
    split at h
    · cases h
    · rename_i l t hlv
      split at h
      · cases h
      · rename_i hn
        split at h
        · rename_i hp
          rw [Bool.and_eq_true] at hp
          have hn' : noneP l = false := by simpa using hn
          obtain ⟨w1, w2, h1, h2, hB⟩ := R0.lv l (by rw [hlv]; exact List.Mem.head _) hn'
          have hf := R0.f (by rw [hlv]; simp)
          obtain ⟨lW, lH, lB⟩ := l
          simp only at w1 w2 h1 h2 hB hp
          obtain ⟨W, rfl⟩ : ∃ n : Nat, lW = n := ⟨lW.toNat, by omega⟩
          obtain ⟨H, rfl⟩ : ∃ n : Nat, lH = n := ⟨lH.toNat, by omega⟩
          simp only [Int.toNat_natCast] at hp h
          have hBn : lB.length = W * H * szOf p.f := by
            obtain ⟨_, _, _, _, _, hsz⟩ := bits_ok p.f hf
            have : ((lB.length : Nat) : Int) = ((W * H * szOf p.f : Nat) : Int) := by rw [hB, hsz]; push_cast; rfl
            exact Int.ofNat.inj this
          exact ⟨W, H, lB, (Except.ok.inj h).symm, ⟨t, hlv⟩, hf, by omega, by omega, hp.1, hp.2, hBn, hr⟩
        · cases h
  · cases h
section
variable {p q : PI} {W H : Nat} {B : List UInt8}
theorem Gen.length (g : Gen p q W H B) : q.lv.length = cntN W H := by
  rw [g.q]
  simp only [List.length_cons, (gens_spec p.f g.f _ W H B (Nat.le_refl _) g.w g.h g.pw g.ph g.len).1, cntN]
theorem Gen.at_ (g : Gen p q W H B) {k : Nat} {l : PL} (hk : q.lv[k]? = some l) : (l.1, l.2.1) = lvDim W H k ∧ (l.2.2.length : Int) = l.1 * l.2.1 * szOf p.f := by
  rw [g.q] at hk
  cases k with
  | zero =>
    simp only [List.getElem?_cons_zero, Option.some.injEq] at hk
    subst hk
    have := g.w
    have := g.h
    refine ⟨by simp only [lvDim, Nat.pow_zero, Nat.div_one]; rw [Nat.max_eq_left (by omega), Nat.max_eq_left (by omega)], ?_⟩
    simp only [g.len]
    push_cast
    rfl
  | succ k => exact (gens_spec p.f g.f _ W H B (Nat.le_refl _) g.w g.h g.pw g.ph g.len).2 k l (by simpa using hk)
theorem Gen.dims (g : Gen p q W H B) {k : Nat} {l : PL} (hk : q.lv[k]? = some l) : (1 ≤ l.1 ∧ l.1 ≤ 64) ∧ (1 ≤ l.2.1 ∧ l.2.1 ≤ 64) ∧ (l.2.2.length : Int) = l.1 * l.2.1 * sizeI p.f := by
  obtain ⟨h1, h2⟩ := g.at_ hk
  simp only [lvDim, Prod.mk.injEq] at h1
  have a := g.w
  have b := g.h
  have c : W / 2 ^ k ≤ W := Nat.div_le_self _ _
  have d : H / 2 ^ k ≤ H := Nat.div_le_self _ _
  obtain ⟨_, _, _, _, _, hsz⟩ := bits_ok p.f g.f
  rw [hsz]
  exact ⟨by omega, by omega, h2⟩
theorem Gen.rightq (g : Gen p q W H B) : rightP q = true := by
  have hr := g.right
  have hl := g.length
  have hle := lg_le (max W H)
  have hc : cntN W H = lg (max W H) + 1 := rfl
  have hany : q.lv.any (badP (sizeI q.f)) = false := by
    rw [List.any_eq_false]
    intro l hm
    obtain ⟨k, hk⟩ := List.mem_iff_getElem?.1 hm
    obtain ⟨d1, d2, d3⟩ := g.dims hk
    rw [show q.f = p.f by rw [g.q], badP_no d1 d2 d3]; decide
  have hlast : (match q.lv.getLast? with | some l => noneP l | none => false) = false := by
    cases hg : q.lv.getLast? with
    | none => rfl
    | some l =>
      obtain ⟨k, hk⟩ := List.mem_iff_getElem?.1 (List.mem_of_getLast? hg)
      exact noneP_no (g.dims hk).1.1
  unfold rightP at hr ⊢
  simp only [Bool.and_eq_true] at hr ⊢
  obtain ⟨⟨⟨⟨⟨⟨⟨_, _⟩, h3⟩, _⟩, h5⟩, h6⟩, h7⟩, h8⟩ := hr
  have hsz : sizeI p.f ≠ 0 := by
    have := g.f
    unfold sizeI
    omega
  have e5 : q.ws = p.ws := by rw [g.q]
  have e6 : q.wt = p.wt := by rw [g.q]
  have e7 : q.mn = p.mn := by rw [g.q]
  have e8 : q.mg = p.mg := by rw [g.q]
  have ef : q.f = p.f := by rw [g.q]
  refine ⟨⟨⟨⟨⟨⟨⟨?_, ?_⟩, ?_⟩, by rw [hany]; rfl⟩, by rw [e5]; exact h5⟩, by rw [e6]; exact h6⟩, by rw [e7]; exact h7⟩, by rw [e8]; exact h8⟩
  · simp; omega
  · have e : decide ((q.lv.length : Int) = 0) = false := decide_eq_false (by omega)
    rw [e]; rfl
  · rw [ef]
    cases hg : q.lv.getLast? with
    | none => simp [hsz]
    | some l =>
      obtain ⟨k, hk⟩ := List.mem_iff_getElem?.1 (List.mem_of_getLast? hg)
      simp [hsz, noneP_no (g.dims hk).1.1]
theorem Gen.again (g : Gen p q W H B) : genP q = .ok q := by
  have hr := g.rightq
  have hlv : q.lv = (↑W, ↑H, B) :: gens p.f W H B := by rw [g.q]
  have hf : q.f = p.f := by rw [g.q]
  have hn : noneP ((↑W, ↑H, B) : PL) = false := noneP_no (by have := g.w; show (1 : Int) ≤ W; omega)
  unfold genP
  rw [if_pos hr, hlv]
  simp only [hn, Bool.false_eq_true, if_false, Int.toNat_natCast, g.pw, g.ph, Bool.and_self, if_true, hf]
  rw [← hlv, ← hf]
theorem Gen.complete (g : Gen p q W H B) : completeB q = true := by
  have hr := g.rightq
  have hlv : q.lv = (↑W, ↑H, B) :: gens p.f W H B := by rw [g.q]
  have hn : noneP ((↑W, ↑H, B) : PL) = false := noneP_no (by have := g.w; show (1 : Int) ≤ W; omega)
  unfold completeB
  rw [hr, Bool.true_and]
  have hall : (List.range (cntN W H)).all (lvOK W H q.lv) = true := by
    rw [List.all_eq_true]
    intro k hk
    have hk' : k < q.lv.length := by rw [g.length]; exact List.mem_range.1 hk
    obtain ⟨h1, _⟩ := g.at_ (List.getElem?_eq_getElem hk')
    simp only [lvDim, Prod.mk.injEq] at h1
    rw [lvOK, List.getElem?_eq_getElem hk']
    simp only [h1.1, h1.2, decide_true, Bool.and_self]
  rw [hlv] at hall ⊢
  simp only [hn, Bool.not_false, Bool.true_and, Int.toNat_natCast, g.pw, g.ph, Bool.and_self, if_true, hall]
  split <;> rfl
end
end Go.Proofs.Ytaaiimlaklpjpaa
