/-
  GrowthAt in words of floats: numbers and infinities, without the program. Conditions: those of each theorem.
-/
import Derived.Test.YtlfffkjgepgcfaaLog
import Derived.Test.YtlfffkjgepgcfaaGrow
namespace Go.Proofs.Ytlfffkjgepgcfaa.fl
open Go.RowKit
open base mem

open Ieee
/-! ### signs -/
theorem nearest_pos (f : Format) (hi : 0 < f.infRung) (neg : Bool) {mag : Nat} {place : Int} (h : (2 : Rat) ^ f.leastPlace ≤ (mag : Rat) * 2 ^ place) : ∃ rung, 0 < rung ∧ rung ≤ f.infRung ∧ f.nearest neg mag place = f.word neg rung := by
  have hm : mag ≠ 0 := by
    rintro rfl
    have e4 : ((0 : Nat) : Rat) = 0 := rfl
    rw [e4] at h
    have := p2_pos f.leastPlace
    grind
  have hlog : 2 ^ mag.log2 ≤ mag := Nat.log2_self_le hm
  unfold Format.nearest
  rw [if_neg hm]
  dsimp only
  generalize hL : max (place + mag.log2 - f.fractionBits) f.leastPlace = L
  have hk : 1 ≤ Toward.even.cut neg (mag <<< (place - L).toNat) (L - place).toNat := by
    apply cut_lo
    rw [Nat.one_mul, Nat.shiftLeft_eq]
    rcases Int.le_total L place with h1 | h1
    · rw [show (L - place).toNat = 0 by omega, Nat.pow_zero]
      exact Nat.mul_pos (Nat.pos_of_ne_zero hm) (Nat.two_pow_pos _)
    · rw [show (place - L).toNat = 0 by omega, Nat.pow_zero, Nat.mul_one]
      rcases Int.le_total (place + mag.log2 - f.fractionBits) f.leastPlace with h2 | h2
      · have hLe : L = f.leastPlace := by omega
        rw [hLe]
        have h3 : ((2 ^ (f.leastPlace - place).toNat : Nat) : Rat) * 2 ^ place ≤ (mag : Rat) * 2 ^ place := by
          rw [p2_toNat (by omega), ← p2_add, show f.leastPlace - place + place = f.leastPlace by omega]
          exact h
        exact nat_le.1 (le_of_mul h3 (p2_pos _))
      · exact Nat.le_trans (Nat.pow_le_pow_right (by omega) (by omega)) hlog
  refine ⟨min ((L - f.leastPlace).toNat * f.binade + Toward.even.cut neg (mag <<< (place - L).toNat) (L - place).toNat) f.infRung, ?_, Nat.min_le_right _ _, rfl⟩
  exact Nat.lt_min.2 ⟨by omega, hi⟩
/-- what a rung above 0 reads as -/
theorem rung_pos (f : Format) (neg : Bool) {rung : Nat} (h0 : 0 < rung) (h1 : rung ≤ f.infRung) : (∃ m e, f.read (f.word neg rung) = .number neg m e ∧ 0 < m) ∨ f.word neg rung = f.word neg f.infRung := by
  rcases Nat.lt_or_eq_of_le h1 with h | h
  · left
    rw [read_word f neg rung h]
    have hb : 0 < f.binade := Nat.two_pow_pos _
    split
    · exact ⟨_, _, rfl, h0⟩
    · exact ⟨_, _, rfl, by omega⟩
  · right; rw [h]
theorem rung_any (f : Format) (neg : Bool) {rung : Nat} (h1 : rung ≤ f.infRung) : (∃ m e, f.read (f.word neg rung) = .number neg m e) ∨ f.word neg rung = f.word neg f.infRung := by
  rcases Nat.lt_or_eq_of_le h1 with h | h
  · left
    rw [read_word f neg rung h]
    split
    · exact ⟨_, _, rfl⟩
    · exact ⟨_, _, rfl⟩
  · right; rw [h]
theorem nearest_any (f : Format) (neg : Bool) (mag : Nat) (place : Int) : ∃ rung, rung ≤ f.infRung ∧ f.nearest neg mag place = f.word neg rung := by
  unfold Format.nearest
  by_cases hm : mag = 0
  · rw [if_pos hm]; exact ⟨0, Nat.zero_le _, rfl⟩
  · rw [if_neg hm]
    exact ⟨_, Nat.min_le_right _ _, rfl⟩
def infW : Nat := 2139095040
theorem infW_read : single.read infW = .infinity false := by decide
theorem infW_word : single.word false single.infRung = infW := by decide
/-- above 0, or without an end -/
def PosW (x : Nat) : Prop := (∃ v, V single x v ∧ 0 < v) ∨ x = infW
def NnW (x : Nat) : Prop := (∃ v, V single x v ∧ 0 ≤ v) ∨ x = infW
theorem sv_nonneg {x : Rat} {s : Bool} (h : 0 ≤ x) (hs : s = false ∨ x = 0) : 0 ≤ sv s x := by
  rcases hs with rfl | rfl
  · exact h
  · cases s <;> simp [sv]
theorem num_nonneg (m : Nat) (e : Int) : (0 : Rat) ≤ (m : Rat) * 2 ^ e := Rat.mul_nonneg (by exact_mod_cast Nat.zero_le _) (Rat.le_of_lt (p2_pos _))
theorem num_pos {m : Nat} (e : Int) (h : 0 < m) : (0 : Rat) < (m : Rat) * 2 ^ e := Rat.mul_pos (by exact_mod_cast h) (p2_pos _)
theorem zero_num (e : Int) : ((0 : Nat) : Rat) * 2 ^ e = 0 := by
  have e4 : ((0 : Nat) : Rat) = 0 := rfl
  rw [e4, Rat.zero_mul]
/-- the sign of a number that is not below 0 -/
theorem sign_of {s : Bool} {m : Nat} {e : Int} (h : 0 ≤ sv s ((m : Rat) * 2 ^ e)) : s = false ∨ m = 0 := by
  cases s
  · exact .inl rfl
  · right
    simp only [sv] at h
    rcases Nat.eq_zero_or_pos m with h0 | h0
    · exact h0
    · have := num_pos e h0
      grind
theorem mul_nn {a b : Nat} {x y : Rat} (ha : V single a x) (hb : V single b y) (h0 : 0 ≤ x) (h1 : 0 < y) : ∃ r, floatBits .mul .f32 a b = some r ∧ NnW r := by
  obtain ⟨s, m, e, hr, rfl⟩ := ha
  obtain ⟨t, n, i, hq, rfl⟩ := hb
  have hs := sign_of h0
  have ht : t = false := by
    rcases sign_of (Rat.le_of_lt h1) with h | h
    · exact h
    · subst h
      rw [zero_num] at h1
      cases t <;> simp [sv] at h1 <;> exact absurd h1 (by decide)
  subst ht
  refine ⟨single.nearest (s ^^ false) (m * n) (e + i), by show single.mul a b = _; unfold Format.mul; rw [hr, hq]; rfl, ?_⟩
  rw [Bool.xor_false]
  rcases hs with rfl | rfl
  · obtain ⟨rung, h2, h3⟩ := nearest_any single false (m * n) (e + i)
    rw [h3]
    rcases rung_any single false h2 with ⟨m', e', h4⟩ | h4
    · exact .inl ⟨_, ⟨false, m', e', h4, rfl⟩, num_nonneg _ _⟩
    · exact .inr (h4.trans infW_word)
  · rw [Nat.zero_mul]
    unfold Format.nearest
    rw [if_pos rfl]
    refine .inl ⟨0, ⟨s, 0, -149, ?_, ?_⟩, Rat.le_refl⟩
    · cases s <;> decide
    · rw [zero_num]; cases s <;> rfl
theorem one_add_pos {b : Nat} (h : NnW b) : ∃ r, floatBits .add .f32 1065353216 b = some r ∧ PosW r := by
  rcases h with ⟨y, hb, h0⟩ | rfl
  · obtain ⟨s, m, e, hr, h1⟩ := one_V32
    obtain ⟨t, n, i, hq, rfl⟩ := hb
    obtain ⟨z, g, p, hs, hv⟩ := sum_val s t m n e i
    rw [← h1] at hv
    generalize sv t ((n : Rat) * 2 ^ i) = q at hv h0
    have hz : z = false ∨ g = 0 := sign_of (by rw [hv]; grind)
    have hg : g ≠ 0 := by
      rintro rfl
      rw [zero_num] at hv
      cases z <;> simp [sv] at hv <;> grind
    obtain rfl : z = false := hz.resolve_right hg
    simp only [sv, if_neg Bool.false_ne_true] at hv
    refine ⟨single.nearest false g p, by show single.add _ b = _; unfold Format.add; rw [hr, hq, hs]; rfl, ?_⟩
    have h1m : (2 : Rat) ^ (-149 : Int) ≤ 2 ^ (0 : Int) := p2_mono (by omega)
    rw [Rat.zpow_zero] at h1m
    obtain ⟨rung, k1, k2, k3⟩ := nearest_pos single (by decide) false (mag := g) (place := p) (by rw [show single.leastPlace = -149 by decide, hv]; grind)
    rw [k3]
    rcases rung_pos single false k1 k2 with ⟨m', e', h4, h5⟩ | h4
    · exact .inl ⟨_, ⟨false, m', e', h4, rfl⟩, num_pos _ h5⟩
    · exact .inr (h4.trans infW_word)
  · exact ⟨infW, by decide, .inr rfl⟩
/-- 1 less a number below 1 -/
theorem one_sub_pos {b : Nat} {y : Rat} (hb : V single b y) (h0 : 0 ≤ y) (h1 : y < 1) : ∃ r, floatBits .sub .f32 1065353216 b = some r ∧ PosW r := by
  have p0 : (2 : Rat) ^ (0 : Int) = 1 := Rat.zpow_zero _
  have hl : (2 : Rat) ^ (-149 : Int) ≤ 1 - y := by
    obtain ⟨t, n, i, hq, rfl⟩ := hb
    have hi : -149 ≤ i := by
      obtain ⟨s, k, j, _, _, _⟩ := V_rep (show V single b _ from ⟨t, n, i, hq, rfl⟩)
      unfold Format.read at hq
      dsimp only at hq
      have hll : single.leastPlace = -149 := by decide
      rw [hll] at hq
      split at hq
      · injection hq with _ h1 h2; omega
      · split at hq
        · injection hq with _ h1 h2; omega
        · split at hq <;> cases hq
    have e1 : sv t ((n : Rat) * 2 ^ i) = ((n * 2 ^ (i + 149).toNat : Nat) : Rat) * 2 ^ (-149 : Int) := by
      have e2 : (n : Rat) * 2 ^ i = ((n * 2 ^ (i + 149).toNat : Nat) : Rat) * 2 ^ (-149 : Int) := by
        rw [Rat.natCast_mul, p2_toNat (by omega), Rat.mul_assoc, ← p2_add]
        congr 2; omega
      rcases sign_of h0 with rfl | rfl
      · exact e2
      · rw [Nat.zero_mul, zero_num, zero_num]; cases t <;> rfl
    have e3 : (1 : Rat) = ((2 ^ 149 : Nat) : Rat) * 2 ^ (-149 : Int) := by rw [← p2_nat, ← p2_add, show ((149 : Nat) : Int) + -149 = 0 by omega, Rat.zpow_zero]
    rw [e1] at h1 ⊢
    have hp := p2_pos (-149)
    generalize n * 2 ^ (i + 149).toNat = N at *
    have h2 : N < 2 ^ 149 := by
      refine nat_lt.1 (Rat.lt_of_mul_lt_mul_right (c := (2 : Rat) ^ (-149 : Int)) ?_ (Rat.le_of_lt hp))
      rw [← e3]; exact h1
    have h3 : ((N + 1 : Nat) : Rat) ≤ ((2 ^ 149 : Nat) : Rat) := nat_le.2 h2
    have h4 := mul_le_right h3 (Rat.le_of_lt hp)
    rw [← e3, Rat.natCast_add, show ((1 : Nat) : Rat) = 1 from rfl] at h4
    grind
  obtain ⟨r, hr, z, hz, _, _, _, _, _, _, z5⟩ := sub_nr (f := single) (M := 0) (fits_single (by omega) (by omega)) one_V32 hb (by rw [p0]; grind) (by rw [p0]; grind)
  have hp := p2_pos (-149)
  exact ⟨r, hr, .inl ⟨z, hz, by have := z5 (-149) (by decide) hl; grind⟩⟩
theorem single_low {b : Nat} {x : Rat} (h : V single b x) (h0 : 0 < x) : 2 ^ (-149 : Int) ≤ x := by
  obtain ⟨t, n, i, hq, rfl⟩ := h
  have hi : -149 ≤ i := by
    unfold Format.read at hq
    dsimp only at hq
    have hll : single.leastPlace = -149 := by decide
    rw [hll] at hq
    split at hq
    · injection hq with _ h1 h2; omega
    · split at hq
      · injection hq with _ h1 h2; omega
      · split at hq <;> cases hq
  have hn : 0 < n := by
    rcases Nat.eq_zero_or_pos n with h | h
    · subst h; rw [zero_num] at h0; cases t <;> simp [sv] at h0 <;> exact absurd h0 (by decide)
    · exact h
  rcases sign_of (Rat.le_of_lt h0) with rfl | h
  · simp only [sv, if_neg Bool.false_ne_true]
    have h1 : (1 : Rat) ≤ (n : Rat) := by exact_mod_cast hn
    have h2 := mul_le_right h1 (Rat.le_of_lt (p2_pos i))
    rw [Rat.one_mul] at h2
    exact Rat.le_trans (p2_mono hi) h2
  · omega
/-- a single number above 0, made double, is of middle size -/
theorem wide_mid {b : Nat} {x : Rat} (h : V single b x) (h0 : 0 < x) : floatToFloatBits .f32 b .f64 = some (wd b) ∧ ∃ z, V double (wd b) z ∧ Mid z := by
  obtain ⟨b2, z, hw, hz, z', hz', _, z2, _, _, _, _, z7⟩ := wide_V h
  obtain rfl := V_fun hz hz'
  have e1 : wd b = b2 := by unfold wd; rw [hw]; rfl
  rw [e1]
  refine ⟨hw, z, hz, ?_⟩
  have h1 := z7 (-149) (by decide) (single_low h h0)
  have hp := p2_pos (-149)
  refine ⟨by grind, ?_, ?_⟩
  · have h2 := mul_le_right h1 (show (0 : Rat) ≤ ((2 ^ 200 : Nat) : Rat) by have := one_le 200; grind)
    rw [← p2_nat, ← p2_add] at h2
    have h3 : (2 : Rat) ^ (0 : Int) ≤ 2 ^ ((-149 : Int) + ((200 : Nat) : Int)) := p2_mono (by omega)
    rw [Rat.zpow_zero] at h3
    rw [← p2_nat]
    grind
  · have h3 : (2 : Rat) ^ (128 : Int) ≤ 2 ^ ((200 : Nat) : Int) := p2_mono (by omega)
    rw [← p2_nat]
    have := p2_pos ((200 : Nat) : Int)
    grind
/-- the logarithm of a number above 0, or of what has no end -/
def lgW (x : Nat) : Nat := if x = infW then x else logW x
def lgO (X : Option Nat) : Option Nat := X.map lgW
theorem V_ne_inf {x : Nat} {v : Rat} (h : V single x v) : x ≠ infW := by
  rintro rfl
  obtain ⟨s, m, e, hr, _⟩ := h
  rw [infW_read] at hr
  cases hr
theorem logW_ok {x : Nat} {v : Rat} (h : V single x v) (h0 : 0 < v) : floatToFloatBits .f64 (logD (wd x)) .f32 = some (logW x) ∧ ∃ z, V single (logW x) z := by
  obtain ⟨_, z, hz, hm⟩ := wide_mid h h0
  obtain ⟨⟨v', a, b, c⟩, d, e⟩ := norm_ok hz hm
  obtain ⟨l, hl, l1, l2⟩ := (parts_ok a b c d e).l
  have hp : (2 : Rat) ^ (15 : Int) ≤ 2 ^ (100 : Int) := p2_mono (by omega)
  obtain ⟨n1, y, n2, _⟩ := narrow_V (b := logD (wd x)) hl (by grind) (by grind)
  exact ⟨n1, y, n2⟩

/-! ### what both packages answer -/
def sh1 (c : Nat) : Bool := single.order c 1065353216 == some .lt
def frB (c : Nat) : Bool := geq0 c && sh1 c
theorem frB_V {c : Nat} (h : frB c = true) : ∃ x, V single c x ∧ 0 ≤ x ∧ x < 1 := by
  unfold frB at h
  rw [Bool.and_eq_true] at h
  have h1 : shB c = true := by
    unfold shB leq1
    rw [h.1, Bool.true_and]
    have := h.2
    unfold sh1 at this
    rw [this]; rfl
  obtain ⟨x, hx, h2, h3⟩ := shB_V h1
  refine ⟨x, hx, h2, ?_⟩
  have h4 := h.2
  unfold sh1 at h4
  rw [order_val hx one_V32] at h4
  by_cases h5 : x < 1
  · exact h5
  · rw [if_neg h5] at h4
    by_cases h6 : x = 1
    · rw [if_pos h6] at h4; cases h4
    · rw [if_neg h6] at h4; cases h4
def gaA (o f : Nat) : Option Nat := ao .add .f32 (some 1065353216) (ao .mul .f32 (al single f) (al single o))
def gaB (f : Nat) : Option Nat := ao .sub .f32 (some 1065353216) (al single f)
def gaX (c o f : Nat) : Option Nat := ao .add .f32 (ao .mul .f32 (al single c) (lgO (gaA o f))) (ao .mul .f32 (ao .sub .f32 (some 1065353216) (al single c)) (lgO (gaB f)))
def gaG (c o f : Nat) : Bool := shB c && (gt0 o && (frB f && finB single (al single o)))
def gaOk (c o f : Nat) : Bool := gaG c o f && finB single (gaX c o f)
def gaOut (c o f : Nat) : Nat := if gaOk c o f then (gaX c o f).getD 0 else 0
theorem gt0_cases {o : Nat} (h : gt0 o = true) : (∃ y, V single o y ∧ 0 < y) ∨ (single.read o = .infinity false) := by
  cases hr : single.read o with
  | nan s t => unfold gt0 at h; rw [order_nan hr] at h; cases h
  | infinity s =>
    unfold gt0 at h
    rw [order_zero_inf hr (show single.read 0 = .number false 0 (-149) by decide)] at h
    cases s
    · exact .inr rfl
    · cases h
  | number s m e =>
    have hv : V single o (sv s ((m : Rat) * 2 ^ e)) := ⟨s, m, e, hr, rfl⟩
    generalize sv s ((m : Rat) * 2 ^ e) = x at hv
    unfold gt0 at h
    rw [order_val hv zero_V] at h
    refine .inl ⟨x, hv, ?_⟩
    by_cases h1 : x < 0
    · rw [if_pos h1] at h; cases h
    · rw [if_neg h1] at h
      by_cases h2 : x = 0
      · rw [if_pos h2] at h; cases h
      · grind
theorem inf_fin {o : Nat} (h : single.read o = .infinity false) : al single o = some o ∧ finB single (al single o) = false := by
  have h1 : al single o = some o := al_some (by rw [h]; rfl)
  rw [h1]
  exact ⟨rfl, by simp only [finB]; rw [h]; rfl⟩
theorem gaA_pos {o f : Nat} (ho : ∃ y, V single o y ∧ 0 < y) (hf : frB f = true) : ∃ r, gaA o f = some r ∧ PosW r := by
  obtain ⟨y, hy, hy0⟩ := ho
  obtain ⟨x, hx, hx0, _⟩ := frB_V hf
  obtain ⟨r, hr, hn⟩ := mul_nn hx hy hx0 hy0
  obtain ⟨q, hq, hp⟩ := one_add_pos hn
  refine ⟨q, ?_, hp⟩
  unfold gaA
  rw [al_V hx, al_V hy]
  simp only [ao, hr, hq]
theorem gaB_pos {f : Nat} (hf : frB f = true) : ∃ r, gaB f = some r ∧ PosW r := by
  obtain ⟨x, hx, hx0, hx1⟩ := frB_V hf
  obtain ⟨q, hq, hp⟩ := one_sub_pos hx hx0 hx1
  refine ⟨q, ?_, hp⟩
  unfold gaB
  rw [al_V hx]
  simp only [ao, hq]
theorem inf_add (Y : Option Nat) (hY : ∀ y, Y = some y → (single.read y).isNaN = false) : ao .add .f32 (some infW) Y = none ∨ ao .add .f32 (some infW) Y = some infW := by
  cases Y with
  | none => exact .inl rfl
  | some y =>
    show single.add infW y = none ∨ single.add infW y = some infW
    unfold Format.add
    rw [infW_read]
    cases hr : single.read y with
    | nan s t => have := hY y rfl; rw [hr] at this; cases this
    | infinity s =>
      cases s
      · exact .inr (by decide)
      · exact .inl (by decide)
    | number s m e => exact .inr (by show some (single.write (.infinity false)) = _; decide)
theorem gaA_inf {o f : Nat} (ho : single.read o = .infinity false) (hf : frB f = true) : gaA o f = none ∨ gaA o f = some infW := by
  obtain ⟨y, ⟨t, n, i, hq, rfl⟩, y0, y1⟩ := frB_V hf
  unfold gaA
  rw [al_V ⟨t, n, i, hq, rfl⟩, (inf_fin ho).1]
  have hm : floatBits .mul .f32 f o = none ∨ floatBits .mul .f32 f o = some infW := by
    show single.mul f o = none ∨ single.mul f o = some infW
    unfold Format.mul
    rw [hq, ho]
    rcases Nat.eq_zero_or_pos n with h0 | h0
    · exact .inl (by simp [Datum.product, h0])
    · right
      have ht : t = false := (sign_of y0).resolve_right (by omega)
      subst ht
      simp [Datum.product, show n ≠ 0 by omega]
      decide
  rcases hm with hm | hm
  · left; simp only [ao, hm]
  · right
    simp only [ao, hm]
    decide
/-- odds without an end: nothing is told -/
theorem ga_inf {c o f : Nat} (hc : shB c = true) (ho : single.read o = .infinity false) (hf : frB f = true) : finB single (gaX c o f) = false := by
  obtain ⟨x, ⟨s, m, e, hr, rfl⟩, x0, x1⟩ := shB_V hc
  have hA := gaA_inf ho hf
  have hX : gaX c o f = none ∨ gaX c o f = some infW := by
    unfold gaX
    have hL : ao .mul .f32 (al single c) (lgO (gaA o f)) = none ∨ ao .mul .f32 (al single c) (lgO (gaA o f)) = some infW := by
      rcases hA with hA | hA
      · left; rw [hA, al_V ⟨s, m, e, hr, rfl⟩]; rfl
      · rw [hA, al_V ⟨s, m, e, hr, rfl⟩]
        have h1 : lgO (some infW) = some infW := by unfold lgO lgW; simp
        rw [h1]
        show single.mul c infW = none ∨ single.mul c infW = some infW
        unfold Format.mul
        rw [hr, infW_read]
        rcases Nat.eq_zero_or_pos m with h0 | h0
        · exact .inl (by simp [Datum.product, h0])
        · right
          have ht : s = false := (sign_of x0).resolve_right (by omega)
          subst ht
          simp [Datum.product, show m ≠ 0 by omega]
          decide
    rcases hL with hL | hL
    · left; rw [hL]; rfl
    · rw [hL]
      refine inf_add _ fun y hy => ?_
      cases hS : ao .sub .f32 (some 1065353216) (al single c) with
      | none => rw [hS] at hy; cases hy
      | some u =>
        cases hT : lgO (gaB f) with
        | none => rw [hS, hT] at hy; cases hy
        | some v => rw [hS, hT] at hy; exact op_notnan (k := .f32) (op := .mul) hy
  rcases hX with h | h
  · rw [h]; rfl
  · rw [h]; decide
end Go.Proofs.Ytlfffkjgepgcfaa.fl
