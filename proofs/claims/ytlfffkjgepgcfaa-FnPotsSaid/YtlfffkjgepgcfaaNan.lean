/-
  Floats that may be none: operations told up to which NaN they give. Conditions: those of each theorem.
-/
import Derived.Test.YtlfffkjgepgcfaaFloat
namespace Go.Proofs.Ytlfffkjgepgcfaa.fl
open Go.RowKit
open base mem

open Ieee
/-- the word, if it is a number or an infinity -/
def al (f : Format) (b : Nat) : Option Nat := if (f.read b).isNaN then none else some b
def ao (op : BinOp) (k : FloatKind) (X Y : Option Nat) : Option Nat :=
  match X, Y with
  | some x, some y => floatBits op k x y
  | _, _ => none
theorem al_some {f : Format} {b : Nat} (h : (f.read b).isNaN = false) : al f b = some b := by unfold al; rw [h]; rfl
theorem al_none {f : Format} {b : Nat} (h : (f.read b).isNaN = true) : al f b = none := by unfold al; rw [h]; rfl
theorem al_V {f : Format} {b : Nat} {x : Rat} (h : V f b x) : al f b = some b := by
  obtain ⟨s, m, e, hr, _⟩ := h
  exact al_some (by rw [hr]; rfl)
theorem al_eq {f : Format} {b c : Nat} (h : al f b = some c) : b = c ∧ (f.read b).isNaN = false := by
  unfold al at h
  cases hn : (f.read b).isNaN
  · rw [hn] at h; exact ⟨Option.some.inj h, rfl⟩
  · rw [hn] at h; cases h
theorem al_nan {f : Format} {b : Nat} (h : al f b = none) : (f.read b).isNaN = true := by
  unfold al at h
  cases hn : (f.read b).isNaN
  · rw [hn] at h; cases h
  · rfl
theorem read_notnan (f : Format) (neg : Bool) (rung : Nat) (h : rung ≤ f.infRung) : (f.read (f.word neg rung)).isNaN = false := by
  rcases Nat.lt_or_eq_of_le h with h1 | h1
  · rw [read_word f neg rung h1]
    split <;> rfl
  · subst h1
    have hs := f.infRung_lt
    have e2 : f.word neg f.infRung % f.signWeight = f.infRung := by
      unfold Format.word
      cases neg
      · rw [if_neg (by simp), Nat.mod_eq_of_lt (by omega)]
      · rw [if_pos rfl, Nat.add_mod_left, Nat.mod_eq_of_lt (by omega)]
    unfold Format.read
    simp only [e2]
    split
    · rfl
    · split
      · rfl
      · rfl
theorem write_notnan (f : Format) (d : Datum) (h : d.isNaN = false) : (f.read (f.write d)).isNaN = false := by
  cases d with
  | number s m e =>
    show (f.read (f.nearest s m e)).isNaN = false
    unfold Format.nearest
    dsimp only
    split
    · exact read_notnan f s 0 (Nat.zero_le _)
    · exact read_notnan f s _ (Nat.min_le_right _ _)
  | infinity s => exact read_notnan f s _ (Nat.le_refl _)
  | nan s t => cases h
theorem sum_notnan {x y d : Datum} (h : Datum.sum x y = some d) : d.isNaN = false := by
  cases x <;> cases y <;> simp only [Datum.sum] at h <;> first | (cases h; done) | (injection h with h; subst h; rfl) | (split at h <;> first | (cases h; done) | (injection h with h; subst h; rfl))
theorem product_notnan {x y d : Datum} (h : Datum.product x y = some d) : d.isNaN = false := by
  cases x <;> cases y <;> simp only [Datum.product] at h <;> first | (cases h; done) | (injection h with h; subst h; rfl) | (split at h <;> first | (cases h; done) | (injection h with h; subst h; rfl))
theorem quotient_notnan {n : Nat} {x y d : Datum} (h : Datum.quotient n x y = some d) : d.isNaN = false := by
  cases x <;> cases y <;> simp only [Datum.quotient] at h <;> first | (cases h; done) | (injection h with h; subst h; rfl) | (split at h <;> first | (cases h; done) | (injection h with h; subst h; rfl) | (split at h <;> first | (cases h; done) | (injection h with h; subst h; rfl)))
theorem map_notnan {f : Format} {o : Option Datum} {r : Nat} (ho : ∀ d, o = some d → d.isNaN = false) (h : o.map f.write = some r) : (f.read r).isNaN = false := by
  cases o with
  | none => cases h
  | some d => injection h with h; subst h; exact write_notnan f d (ho d rfl)
theorem op_notnan {op : BinOp} {k : FloatKind} {x y r : Nat} (h : floatBits op k x y = some r) : (k.format.read r).isNaN = false := by
  unfold floatBits at h
  split at h
  · exact map_notnan (fun d hd => sum_notnan hd) h
  · exact map_notnan (fun d hd => sum_notnan hd) h
  · exact map_notnan (fun d hd => product_notnan hd) h
  · exact map_notnan (fun d hd => quotient_notnan hd) h
  · cases h
theorem isNaN_eq {d : Datum} (h : d.isNaN = true) : ∃ s t, d = .nan s t := by
  cases d with
  | nan s t => exact ⟨s, t, rfl⟩
  | number => cases h
  | infinity => cases h
theorem op_nan_left {op : BinOp} {k : FloatKind} {x y : Nat} (h : (k.format.read x).isNaN = true) : floatBits op k x y = none := by
  obtain ⟨s, t, hx⟩ := isNaN_eq h
  unfold floatBits
  split
  · unfold Format.add; rw [hx]; rfl
  · unfold Format.sub; rw [hx]; rfl
  · unfold Format.mul; rw [hx]; rfl
  · unfold Format.div; rw [hx]; rfl
  · rfl
theorem op_nan_right {op : BinOp} {k : FloatKind} {x y : Nat} (h : (k.format.read y).isNaN = true) : floatBits op k x y = none := by
  obtain ⟨s, t, hy⟩ := isNaN_eq h
  unfold floatBits
  split
  · unfold Format.add; rw [hy]; cases k.format.read x <;> rfl
  · unfold Format.sub; rw [hy]; simp only [Datum.opposite]; cases k.format.read x <;> rfl
  · unfold Format.mul; rw [hy]; cases k.format.read x <;> rfl
  · unfold Format.div; rw [hy]; cases k.format.read x <;> rfl
  · rfl
theorem ao_al {op : BinOp} {k : FloatKind} (x y : Nat) : ao op k (al k.format x) (al k.format y) = floatBits op k x y := by
  unfold al
  cases hx : (k.format.read x).isNaN
  · cases hy : (k.format.read y).isNaN
    · rfl
    · rw [op_nan_right hy]; rfl
  · rw [op_nan_left hx]; rfl
theorem nan32 (t : Nat) : (single.read ((t % 2) * 2 ^ 31 + 0x7f800000 + 1 + (t / 2) % (2 ^ 23 - 1))).isNaN = true := by
  have h1 : t % 2 < 2 := Nat.mod_lt _ (by omega)
  have h2 : (t / 2) % (2 ^ 23 - 1) < 8388607 := Nat.mod_lt _ (by omega)
  generalize t % 2 = a at *
  generalize (t / 2) % (2 ^ 23 - 1) = q at *
  have e : (a * 2 ^ 31 + 0x7f800000 + 1 + q) % 2147483648 = 2139095041 + q := by
    rw [show a * 2 ^ 31 + 0x7f800000 + 1 + q = (2139095041 + q) + 2147483648 * a by omega, Nat.add_mul_mod_self_left, Nat.mod_eq_of_lt (by omega)]
  unfold Format.read
  dsimp only
  have hb : single.binade = 8388608 := by decide
  have hi : single.infRung = 2139095040 := by decide
  have hs : single.signWeight = 2147483648 := by decide
  rw [hb, hi, hs, e]
  have n1 : ¬ 2139095041 + q < 8388608 := by omega
  have n2 : ¬ 2139095041 + q < 2139095040 := by omega
  have n3 : ¬ 2139095041 + q = 2139095040 := by omega
  rw [if_neg n1, if_neg n2, if_neg n3]
  rfl
theorem nan64 (t : Nat) : (double.read ((t % 2) * 2 ^ 63 + 0x7ff0000000000000 + 1 + (t / 2) % (2 ^ 52 - 1))).isNaN = true := by
  have h1 : t % 2 < 2 := Nat.mod_lt _ (by omega)
  have h2 : (t / 2) % (2 ^ 52 - 1) < 4503599627370495 := Nat.mod_lt _ (by omega)
  generalize t % 2 = a at *
  generalize (t / 2) % (2 ^ 52 - 1) = q at *
  have e : (a * 2 ^ 63 + 0x7ff0000000000000 + 1 + q) % 9223372036854775808 = 9218868437227405313 + q := by
    rw [show a * 2 ^ 63 + 0x7ff0000000000000 + 1 + q = (9218868437227405313 + q) + 9223372036854775808 * a by omega, Nat.add_mul_mod_self_left, Nat.mod_eq_of_lt (by omega)]
  unfold Format.read
  dsimp only
  have hb : double.binade = 4503599627370496 := by decide
  have hi : double.infRung = 9218868437227405312 := by decide
  have hs : double.signWeight = 9223372036854775808 := by decide
  rw [hb, hi, hs, e]
  have n1 : ¬ 9218868437227405313 + q < 4503599627370496 := by omega
  have n2 : ¬ 9218868437227405313 + q < 9218868437227405312 := by omega
  have n3 : ¬ 9218868437227405313 + q = 9218868437227405312 := by omega
  rw [if_neg n1, if_neg n2, if_neg n3]
  rfl
theorem cut_nan (k : FloatKind) (x y t : Nat) : (k.format.read ((Question.nanBits k x y).cut t)).isNaN = true := by
  cases k
  · exact nan32 t
  · exact nan64 t
/-- one operation on two floats, whatever they are -/
theorem run_fop (op : BinOp) (hop : op = .add ∨ op = .sub ∨ op = .mul ∨ op = .quo) (T : TypeId) (k : FloatKind) (x y : Nat) (P : Program) (w : World) :
    ∃ r n, (binOp op T (.float k x) (.float k y)).run P w = .ok (.float k r) (w.drewN n) ∧ al k.format r = ao op k (al k.format x) (al k.format y) := by
  cases h : floatBits op k x y with
  | some r => exact ⟨r, 0, run_float_arith w op T k x y r h, by rw [ao_al, h]; exact al_some (op_notnan h)⟩
  | none =>
    refine ⟨(Question.nanBits k x y).cut (w.tape w.drawn (Question.nanBits k x y)), 1, ?_, by rw [ao_al, h]; exact al_none (cut_nan k x y _)⟩
    unfold floatBits at h
    rcases hop with rfl | rfl | rfl | rfl <;> simp only at h <;> simp [binOp, Op.floatArith, h, Question.forced] <;> rfl
def finB (f : Format) (X : Option Nat) : Bool :=
  match X with
  | some b => !(f.read b).isInfinity
  | none => false
theorem order_none_left {f : Format} {a b : Nat} (h : al f a = none) : f.order a b = none := by
  obtain ⟨s, t, hx⟩ := isNaN_eq (al_nan h)
  exact order_nan hx
theorem num_V {f : Format} {b : Nat} (h1 : (f.read b).isNaN = false) (h2 : (f.read b).isInfinity = false) : ∃ x, V f b x := by
  cases h : f.read b with
  | nan s t => rw [h] at h1; cases h1
  | infinity s => rw [h] at h2; cases h2
  | number s m e => exact ⟨_, s, m, e, h, rfl⟩
theorem fin_V {f : Format} {b : Nat} (h : finB f (al f b) = true) : ∃ x, V f b x := by
  unfold al at h
  cases hn : (f.read b).isNaN
  · rw [hn] at h
    simp only [finB] at h
    exact num_V hn (by simpa using h)
  · rw [hn] at h; cases h
theorem V_fin {f : Format} {b : Nat} {x : Rat} (h : V f b x) : finB f (al f b) = true := by
  rw [al_V h]
  simp [finB, V_notinf h]
theorem sub_self_any (b : Nat) : (match ao .sub .f32 (al single b) (al single b) with | some r => single.order r 0 == some .eq | none => false) = finB single (al single b) := by
  cases hf : finB single (al single b)
  · have : ao .sub .f32 (al single b) (al single b) = none := by
      have e := ao_al (op := .sub) (k := .f32) b b
      rw [show FloatKind.f32.format = single from rfl] at e
      rw [e]
      unfold al at hf
      cases hn : (single.read b).isNaN
      · rw [hn, if_neg (by simp)] at hf
        simp only [finB] at hf
        show single.sub b b = none
        unfold Format.sub
        cases h : single.read b with
        | nan s t => rw [h] at hn; cases hn
        | number s m e => rw [h] at hf; cases hf
        | infinity s => cases s <;> rfl
      · exact op_nan_left hn
    rw [this]
  · obtain ⟨x, hx⟩ := fin_V hf
    obtain ⟨r, hr, ho⟩ := sub_self hx
    rw [al_V hx]
    show (match single.sub b b with | some r => single.order r 0 == some .eq | none => false) = true
    rw [hr]
    simp [ho]

theorem IsFinite_any (c : Nat) (w : World) : Calls Try.prog 77 #[.float .f32 c] w fun e w' => e = .returned (.bool (finB single (al single c))) ∧ ∃ n, w' = w.drewN n := by
  obtain ⟨r, n, hr, ha⟩ := run_fop .sub (.inr (.inl rfl)) 25 .f32 c c Try.prog w
  have hs := sub_self_any c
  rw [show FloatKind.f32.format = single from rfl] at ha
  rw [← ha] at hs
  obtain ⟨F, hF⟩ := ex_eq (finB single (al single c))
  rw [hF] at hs ⊢
  have ho : (FloatKind.f32.format.order r 0 == some .eq) = F := by
    rw [← hs]
    cases h : al single r with
    | none => show (single.order r 0 == _) = _; rw [order_none_left h]; rfl
    | some q => obtain ⟨rfl, _⟩ := al_eq h; rfl
  clear hs ha hF
  cases F
  all_goals
    go_enter Try.func77, Try.ntmps77
    go_wp2
    go_ret
    exact ⟨rfl, n, rfl⟩

theorem l01Finite_any (c : Nat) (w : World) : Calls Try.prog 78 #[.float .f32 c] w fun e w' => e = .returned (.bool (finB single (al single c))) ∧ ∃ n, w' = w.drewN n := by
  obtain ⟨r, n, hr, ha⟩ := run_fop .sub (.inr (.inl rfl)) 25 .f32 c c Try.prog w
  have hs := sub_self_any c
  rw [show FloatKind.f32.format = single from rfl] at ha
  rw [← ha] at hs
  obtain ⟨F, hF⟩ := ex_eq (finB single (al single c))
  rw [hF] at hs ⊢
  have ho : (FloatKind.f32.format.order r 0 == some .eq) = F := by
    rw [← hs]
    cases h : al single r with
    | none => show (single.order r 0 == _) = _; rw [order_none_left h]; rfl
    | some q => obtain ⟨rfl, _⟩ := al_eq h; rfl
  clear hs ha hF
  cases F
  all_goals
    go_enter Try.func78, Try.ntmps78
    go_wp2
    go_ret
    exact ⟨rfl, n, rfl⟩

theorem checked_any (c : Nat) (w : World) : Calls Try.prog 57 #[.float .f32 c] w fun e w' => e = .returned (.tuple #[.float .f32 (if finB single (al single c) then c else 0), .bool (finB single (al single c))]) ∧ ∃ n, w' = w.drewN n := by
  have HC := hide (fun V => IsFinite_any c V)
  generalize finB single (al single c) = F at *
  cases F
  all_goals
    go_enter Try.func57, Try.ntmps57
    go_wp2_with fail
    refine (HC.out _).mono ?_
    rintro e w1 ⟨rfl, n, rfl⟩
    go_wp2
    go_ret2
    exact ⟨rfl, n, rfl⟩

theorem l02Number_any (c : Nat) (w : World) : Calls Try.prog 59 #[.float .f32 c] w fun e w' => e = .returned (.tuple #[.float .f32 (if finB single (al single c) then c else 0), .bool (finB single (al single c))]) ∧ ∃ n, w' = w.drewN n := by
  have HC := hide (fun V => l01Finite_any c V)
  generalize finB single (al single c) = F at *
  cases F
  all_goals
    go_enter Try.func59, Try.ntmps59
    go_wp2_with fail
    refine (HC.out _).mono ?_
    rintro e w1 ⟨rfl, n, rfl⟩
    go_wp2
    go_ret2
    exact ⟨rfl, n, rfl⟩

def gt0 (o : Nat) : Bool := single.order o 0 == some .gt
theorem l02Above_any (o : Nat) (w : World) : Calls Try.prog 58 #[.float .f32 o] w fun e w' => e = .returned (.bool (finB single (al single o) && gt0 o)) ∧ ∃ n, w' = w.drewN n := by
  have HC := hide (fun V => l01Finite_any o V)
  generalize finB single (al single o) = F at *
  cases hg : gt0 o
  all_goals
    have ho : (FloatKind.f32.format.order o 0 == some .gt) = _ := hg
    clear hg
    cases F
    all_goals
      go_enter Try.func58, Try.ntmps58
      go_wp2_with fail
      refine (HC.out _).mono ?_
      rintro e w1 ⟨rfl, n, rfl⟩
      go_wp2
      go_ret
      exact ⟨rfl, n, rfl⟩

end Go.Proofs.Ytlfffkjgepgcfaa.fl
