/-
  What the statement on places sums up in float64: rows and columns are near to 1, prizes are all given, more stacks have the first place more often. Conditions: those of each theorem.
-/
import Derived.Test.YtlfffkjgepgcfaaPz
import Derived.Test.YtlfffkjgepgcfaaPlx
namespace Go.Proofs.Ytlfffkjgepgcfaa.pl
open Go.RowKit
open base mem fl chance
open Ieee

def wd (c : Nat) : Nat := (floatToFloatBits .f32 c .f64).getD 0
def addD (a b : Nat) : Nat := (double.add a b).getD 0
def mulD (a b : Nat) : Nat := (double.mul a b).getD 0
def sumD (f : Nat → Nat) : Nat → Nat
  | 0 => 0
  | m + 1 => addD (sumD f m) (wd (f m))
theorem V_rep32 {b : Nat} {x : Rat} (h : V single b x) : Rep double x := by
  obtain ⟨s, k, j, hx, hk, hj⟩ := V_rep h
  refine ⟨s, k, j, hx, ?_, ?_⟩
  · have h1 : single.binade = 8388608 := by decide
    have h2 : double.binade = 4503599627370496 := by decide
    omega
  · have h1 : single.leastPlace = -149 := by decide
    have h2 : double.leastPlace = -1074 := by decide
    omega
/-- a single number made double is the same number -/
theorem wd_ok {b : Nat} {x : Rat} (h : V single b x) : floatToFloatBits .f32 b .f64 = some (wd b) ∧ V double (wd b) x := by
  have hr := V_rep32 h
  obtain ⟨h1, h2⟩ := V_bound h
  obtain ⟨s, m, e, hd, hx⟩ := h
  have hv := write_exact (f := double) (M := 128) (fits_double (by omega) (by omega)) (s := s) (mag := m) (place := e) (x := x) hx h1 h2 hr
  have hf : floatToFloatBits .f32 b .f64 = some (double.write (.number s m e)) := by
    unfold floatToFloatBits
    have hd' : FloatKind.f32.decode b = .number s m e := hd
    rw [if_neg (by decide), hd']
    have : ((FloatKind.f64.decode (FloatKind.f64.encode (.number s m e))).isInfinity) = false := V_notinf hv
    simp only [this]
    rfl
  have e1 : wd b = double.write (.number s m e) := by unfold wd; rw [hf]; rfl
  rw [e1]
  exact ⟨hf, hv⟩
/-- a tiny number: half a unit of numbers up to 2^12 -/
def tt : Rat := 2 ^ (-41 : Int)
theorem tt_pos : 0 < tt := p2_pos _
theorem tt_small : 1000000 * tt ≤ 1 / 1000000 := by unfold tt; decide +kernel
theorem p12 : (2 : Rat) ^ (12 : Int) = 4096 := by decide +kernel
theorem p12_t : (2 : Rat) ^ ((12 : Int) - (double.fractionBits : Int)) = 2 * tt := by unfold tt; decide +kernel
theorem fits12 : Fits double 12 := fits_double (by omega) (by omega)
theorem addD_ok {a b : Nat} {x y : Rat} (hx : V double a x) (hy : V double b y) (h1 : -4096 ≤ x + y) (h2 : x + y ≤ 4096) : double.add a b = some (addD a b) ∧ ∃ z, V double (addD a b) z ∧ z - (x + y) ≤ tt ∧ (x + y) - z ≤ tt ∧ (0 ≤ x + y → 0 ≤ z) := by
  obtain ⟨r, hr, z, hz, z1, z2, z3, z4, z5, z6, z7⟩ := add_nr fits12 hx hy (by rw [p12]; exact h1) (by rw [p12]; exact h2)
  rw [p12_t] at z3 z4
  have e : addD a b = r := by unfold addD; rw [hr]; rfl
  rw [e]
  exact ⟨hr, z, hz, by grind, by grind, z5⟩
theorem mulD_ok {a b : Nat} {x y : Rat} (hx : V double a x) (hy : V double b y) (h1 : -4096 ≤ x * y) (h2 : x * y ≤ 4096) : double.mul a b = some (mulD a b) ∧ ∃ z, V double (mulD a b) z ∧ z - x * y ≤ tt ∧ x * y - z ≤ tt := by
  obtain ⟨r, hr, z, hz, z1, z2, z3, z4, z5, z6, z7⟩ := mul_nr fits12 hx hy (by rw [p12]; exact h1) (by rw [p12]; exact h2)
  rw [p12_t] at z3 z4
  have e : mulD a b = r := by unfold mulD; rw [hr]; rfl
  rw [e]
  exact ⟨hr, z, hz, by grind, by grind⟩
/-- how far two numbers are apart, in words -/
def gapD (a b : Nat) : Nat := if double.order a b = some .lt then (double.sub b a).getD 0 else (double.sub a b).getD 0
theorem gapD_ok {a b : Nat} {x y e : Rat} (hx : V double a x) (hy : V double b y) (h1 : x - y ≤ e) (h2 : y - x ≤ e) (he : e ≤ 4096) :
    (if double.order a b = some .lt then double.sub b a else double.sub a b) = some (gapD a b) ∧ ∃ z, V double (gapD a b) z ∧ z ≤ e + tt := by
  unfold gapD
  by_cases ho : double.order a b = some .lt
  · rw [if_pos ho, if_pos ho]
    obtain ⟨r, hr, z, hz, z1, z2, z3, z4, z5, z6, z7⟩ := sub_nr fits12 hy hx (by rw [p12]; grind) (by rw [p12]; grind)
    rw [p12_t] at z3 z4
    rw [hr]
    exact ⟨rfl, z, hz, by grind⟩
  · rw [if_neg ho, if_neg ho]
    obtain ⟨r, hr, z, hz, z1, z2, z3, z4, z5, z6, z7⟩ := sub_nr fits12 hx hy (by rw [p12]; grind) (by rw [p12]; grind)
    rw [p12_t] at z3 z4
    rw [hr]
    exact ⟨rfl, z, hz, by grind⟩
theorem not_gt {a b : Nat} {x y : Rat} (hx : V double a x) (hy : V double b y) (h : x ≤ y) : (double.order a b == some .gt) = false := by
  rw [order_val hx hy]
  by_cases h1 : x < y
  · rw [if_pos h1]; rfl
  · rw [if_neg h1, if_pos (by grind)]; rfl
theorem not_lt32 {a b : Nat} {x y : Rat} (hx : V single a x) (hy : V single b y) (h : y ≤ x) : (single.order a b == some .lt) = false := by
  rw [order_val hx hy]
  by_cases h1 : x < y
  · exfalso; grind
  · rw [if_neg h1]
    split <;> rfl
/-- sums of nearly exact numbers -/
theorem sumD_ok {f : Nat → Nat} {F : Nat → Rat} {e B : Rat} (he : 0 ≤ e) (he1 : e ≤ 1) (hB : 0 ≤ B) (hB2 : B ≤ 500) : ∀ m, m ≤ 6 → (∀ k, k < m → ∃ x, V single (f k) x ∧ 0 ≤ x ∧ x - F k ≤ e ∧ F k - x ≤ e ∧ x ≤ B) →
    (∃ z, V double (sumD f m) z ∧ 0 ≤ z ∧ z ≤ natR m * (B + tt) ∧ z - rs F m ≤ natR m * (e + tt) ∧ rs F m - z ≤ natR m * (e + tt)) ∧
      ∀ k, k < m → floatToFloatBits .f32 (f k) .f64 = some (wd (f k)) ∧ double.add (sumD f k) (wd (f k)) = some (sumD f (k + 1))
  | 0, _, _ => by
    refine ⟨⟨0, zero_V64, Rat.le_refl, ?_, ?_, ?_⟩, fun k hk => absurd hk (Nat.not_lt_zero k)⟩
    · rw [natR_zero]; grind
    · rw [natR_zero]; show (0 : Rat) - 0 ≤ _; grind
    · rw [natR_zero]; show (0 : Rat) - 0 ≤ _; grind
  | m + 1, hm, hp => by
    obtain ⟨⟨z, z1, z2, z3, z4, z5⟩, hops⟩ := sumD_ok he he1 hB hB2 m (by omega) (fun k hk => hp k (by omega))
    obtain ⟨x, x1, x2, x3, x4, x5⟩ := hp m (by omega)
    obtain ⟨w1, w2⟩ := wd_ok x1
    have h6 := natR_le (show m ≤ 5 by omega)
    have e5 : natR 5 = 5 := rfl
    rw [e5] at h6
    have ht := tt_small
    have ht0 := tt_pos
    have k1 := mul_le_right h6 (show 0 ≤ B + tt by grind)
    obtain ⟨a1, r, a2, a3, a4, a5⟩ := addD_ok z1 w2 (by grind) (by grind)
    refine ⟨⟨r, a2, a5 (by grind), ?_, ?_, ?_⟩, fun k hk => ?_⟩
    · rw [natR_succ]; grind
    · rw [natR_succ]; show r - (rs F m + F m) ≤ _; grind
    · rw [natR_succ]; show (rs F m + F m) - r ≤ _; grind
    · rcases Nat.lt_succ_iff_lt_or_eq.1 hk with h | h
      · exact hops k h
      · subst h; exact ⟨w1, a1⟩
section
variable {xs ps : List Int}
theorem EE5 : EE 5 = 152 * uu := by
  have : natR 5 = 5 := rfl
  unfold EE; rw [this]; grind
theorem near_pl (g : Good xs) {k i : Nat} (hk : k < xs.length) (hi : i < xs.length) : ∃ x, V single (PL xs k allL i) x ∧ 0 ≤ x ∧ x - PR xs k allL i ≤ 152 * uu ∧ PR xs k allL i - x ≤ 152 * uu ∧ x ≤ 2 := by
  have hf := g.few
  obtain ⟨z, z1, z2, z3, z4⟩ := PL_ok g k allL i (by omega) hi rfl
  have hE := EE_mono (show k ≤ 5 by omega)
  rw [EE5] at hE
  have hb := (PR_bd g k allL i hi rfl).2
  have hs := uu_small
  exact ⟨z, z1, z2, by grind, by grind, by grind⟩
def rowW (xs : List Int) (i : Nat) : Nat → Nat := sumD (fun k => PL xs k allL i)
def colW (xs : List Int) (i : Nat) : Nat → Nat := sumD (fun k => PL xs i allL k)
def totW (xs ps : List Int) : Nat → Nat := sumD (fun i => prW xs ps i xs.length)
theorem row_ok (g : Good xs) {i : Nat} (hi : i < xs.length) :
    (∃ z, V double (rowW xs i xs.length) z ∧ z - 1 ≤ 1 / 2000 ∧ 1 - z ≤ 1 / 2000) ∧ ∀ k, k < xs.length → floatToFloatBits .f32 (PL xs k allL i) .f64 = some (wd (PL xs k allL i)) ∧ double.add (rowW xs i k) (wd (PL xs k allL i)) = some (rowW xs i (k + 1)) := by
  have hs := uu_small
  have h0 := uu_pos
  have ht := tt_small
  have ht0 := tt_pos
  have hf := natR_le g.few
  have e6 : natR 6 = 6 := rfl
  rw [e6] at hf
  have k1 := mul_le_right hf (show 0 ≤ 152 * uu + tt by grind)
  have hu : 10000 * uu ≤ 1 / 500 := by unfold uu; decide +kernel
  obtain ⟨⟨z, z1, _, _, z4, z5⟩, hops⟩ := sumD_ok (f := fun k => PL xs k allL i) (F := fun k => PR xs k allL i) (e := 152 * uu) (B := 2) (by grind) (by grind) (by decide +kernel) (by decide +kernel) xs.length g.few (fun k hk => near_pl g hk hi)
  have h1 : rs (fun k => PR xs k allL i) xs.length = 1 := row_one g hi xs.length allL (cnt_all _) rfl
  rw [h1] at z4 z5
  exact ⟨⟨z, z1, by grind, by grind⟩, hops⟩
theorem col_ok (g : Good xs) {i : Nat} (hi : i < xs.length) :
    (∃ z, V double (colW xs i xs.length) z ∧ z - 1 ≤ 1 / 2000 ∧ 1 - z ≤ 1 / 2000) ∧ ∀ k, k < xs.length → floatToFloatBits .f32 (PL xs i allL k) .f64 = some (wd (PL xs i allL k)) ∧ double.add (colW xs i k) (wd (PL xs i allL k)) = some (colW xs i (k + 1)) := by
  have hs := uu_small
  have h0 := uu_pos
  have ht := tt_small
  have ht0 := tt_pos
  have hf := natR_le g.few
  have e6 : natR 6 = 6 := rfl
  rw [e6] at hf
  have k1 := mul_le_right hf (show 0 ≤ 152 * uu + tt by grind)
  have hu : 10000 * uu ≤ 1 / 500 := by unfold uu; decide +kernel
  obtain ⟨⟨z, z1, _, _, z4, z5⟩, hops⟩ := sumD_ok (f := fun k => PL xs i allL k) (F := fun k => PR xs i allL k) (e := 152 * uu) (B := 2) (by grind) (by grind) (by decide +kernel) (by decide +kernel) xs.length g.few (fun k hk => near_pl g hi hk)
  have h1 : rs (fun k => PR xs i allL k) xs.length = 1 := col_one g i allL (by rw [cnt_all]; exact hi)
  rw [h1] at z4 z5
  exact ⟨⟨z, z1, by grind, by grind⟩, hops⟩
/-- more stacks, no less often the first place -/
theorem first_ok (g : Good xs) (h500 : sumL xs allL xs.length ≤ 1000) {i k : Nat} (hi : i < xs.length) (hk : k < xs.length) (h : xs.getD i 0 < xs.getD k 0) : (single.order (PL xs 0 allL k) (PL xs 0 allL i) == some .lt) = false := by
  obtain ⟨z, z1, _, z3, z4⟩ := PL_ok g 0 allL k (by omega) hk rfl
  obtain ⟨y, y1, _, y3, y4⟩ := PL_ok g 0 allL i (by omega) hi rfl
  have hE : EE 0 = 2 * uu := by unfold EE; rw [natR_zero]; grind
  rw [hE] at z3 z4 y3 y4
  refine not_lt32 z1 y1 ?_
  have hS1 := sumR_pos g hi (L := allL) rfl
  have hS2 : (sumL xs allL xs.length : Rat) ≤ 1000 := Rat.intCast_le_intCast.2 h500
  have q1 := qR_mul g hi (L := allL) rfl (j := i)
  have q2 := qR_mul g hi (L := allL) rfl (j := k)
  have h2 : (xs.getD i 0 : Rat) + 1 ≤ (xs.getD k 0 : Rat) := by
    have : ((xs.getD i 0 + 1 : Int) : Rat) ≤ (xs.getD k 0 : Rat) := Rat.intCast_le_intCast.2 (by omega)
    rw [Rat.intCast_add] at this
    exact this
  have hu : 10000 * uu ≤ 1 / 500 := by unfold uu; decide +kernel
  have hu0 := uu_pos
  have k1 := mul_le_right hS2 (show 0 ≤ 4 * uu by grind)
  have h3 : qR xs allL i + 4 * uu ≤ qR xs allL k := by
    refine le_of_mul (c := (sumL xs allL xs.length : Rat)) ?_ (by grind)
    rw [Rat.add_mul, q1, q2]
    grind
  change z - qR xs allL k ≤ _ at z3
  change qR xs allL k - z ≤ _ at z4
  change y - qR xs allL i ≤ _ at y3
  grind
end
end Go.Proofs.Ytlfffkjgepgcfaa.pl
