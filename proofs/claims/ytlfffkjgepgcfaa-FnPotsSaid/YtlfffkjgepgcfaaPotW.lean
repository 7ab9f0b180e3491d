/-
  Small functions that FnPots asks: shares of a call and of a bluff, and how far two numbers are apart. Conditions: those of each theorem.
-/
import Derived.Test.YtlfffkjgepgcfaaPotC
import Derived.Test.YtlfffkjgepgcfaaPotL
import Derived.Test.YtlfffkjgepgcfaaB0W
import Derived.Test.YtlfffkjgepgcfaaGcd
namespace Go.Proofs.Ytlfffkjgepgcfaa.chance
open Go.RowKit
open base mem fl byts

open Ieee
theorem gap_any {a b g : Nat} (h : gapW a b = some g) (w : World) : Calls Try.prog 49 #[.float .f64 a, .float .f64 b] w fun e w' => e = .returned (.float .f64 g) ∧ w = w' := by
  unfold gapW at h
  by_cases h1 : double.order a b = some .lt
  · rw [if_pos h1] at h
    have h2 : (FloatKind.f64.format.order a b == some .lt) = true := by
      show (double.order a b == _) = _
      rw [h1]; rfl
    have r1 : ∀ w, (binOp .sub 29 (.float .f64 b) (.float .f64 a)).run Try.prog w = .ok (.float .f64 g) w := fun w => run_float_arith (P := Try.prog) w .sub 29 .f64 _ _ _ h
    clear h h1
    go_enter Try.func49, Try.ntmps49
    go_wp2
    go_ret
    exact ⟨rfl, rfl⟩
  · rw [if_neg h1] at h
    have h2 : (FloatKind.f64.format.order a b == some .lt) = false := by
      show (double.order a b == _) = _
      cases ho : double.order a b with
      | none => rfl
      | some o => cases o <;> first | rfl | exact absurd ho h1
    have r1 : ∀ w, (binOp .sub 29 (.float .f64 a) (.float .f64 b)).run Try.prog w = .ok (.float .f64 g) w := fun w => run_float_arith (P := Try.prog) w .sub 29 .f64 _ _ _ h
    clear h h1
    go_enter Try.func49, Try.ntmps49
    go_wp2
    go_ret
    exact ⟨rfl, rfl⟩
theorem gcd_div {k m : Nat} (hk : 1 ≤ k) : k / Nat.gcd k m * m = m / Nat.gcd k m * k ∧ 1 ≤ m / Nat.gcd k m ∨ m = 0 := by
  by_cases hm : m = 0
  · exact .inr hm
  · left
    have hg : 0 < Nat.gcd k m := Nat.gcd_pos_of_pos_left _ (by omega)
    obtain ⟨a, ha⟩ := Nat.gcd_dvd_left k m
    obtain ⟨b, hb⟩ := Nat.gcd_dvd_right k m
    have e1 : k / Nat.gcd k m = a := Nat.div_eq_of_eq_mul_right hg ha
    have e2 : m / Nat.gcd k m = b := Nat.div_eq_of_eq_mul_right hg hb
    rw [e1, e2]
    generalize Nat.gcd k m = g at *
    subst ha hb
    refine ⟨?_, ?_⟩
    · rw [Nat.mul_comm g b, Nat.mul_comm g a, ← Nat.mul_assoc, ← Nat.mul_assoc, Nat.mul_comm a b]
    · rcases Nat.eq_zero_or_pos b with h0 | h0
      · subst h0; simp at hm
      · exact h0
theorem callShare_any (p k : Nat) (hp : p ≤ 199) (hk1 : 1 ≤ k) (hk : k ≤ 100) (w : World) :
    Calls Try.prog 47 #[.int .i64 (p : Int), .int .i64 (k : Int)] w fun e w' => ∃ x y : Nat, e = .returned (.tuple #[.int .i64 (x : Int), .int .i64 (y : Int), .bool true]) ∧ (x * (p + k) = y * k ∧ 1 ≤ y ∧ x ≤ y ∧ y ≤ 1000) ∧ ∃ n, w' = w.drewN n := by
  have HL := gcds.lowest_any k (p + k) w (by omega) (by omega) (by omega)
  have hf := gcd_div (m := p + k) hk1
  have hle : k / Nat.gcd k (p + k) ≤ (p + k) / Nat.gcd k (p + k) := Nat.div_le_div_right (by omega)
  have hle2 : (p + k) / Nat.gcd k (p + k) ≤ p + k := Nat.div_le_self _ _
  obtain ⟨x, hx⟩ := ex_eq (k / Nat.gcd k (p + k))
  obtain ⟨y, hy⟩ := ex_eq ((p + k) / Nat.gcd k (p + k))
  rw [hx, hy] at HL hf hle
  rw [hy] at hle2
  rw [Int.natCast_add] at HL
  have HF := hide (show x * (p + k) = y * k ∧ 1 ≤ y ∧ x ≤ y ∧ y ≤ 1000 by
    rcases hf with hf | hf
    · exact ⟨hf.1, hf.2, hle, by omega⟩
    · omega)
  have HL := hide HL
  clear hf hle hle2 hx hy
  have i1 := inB_mk (show (0 : Int) ≤ (p : Int) by omega) (show (p : Int) ≤ 1000000 by omega)
  have i2 := inB_mk (show (1 : Int) ≤ (k : Int) by omega) (show (k : Int) ≤ 1000000 by omega)
  go_enter Try.func47, Try.ntmps47
  go_wp2_with (first | (go_at_call 54; refine (within_any _ _ _ _).mono ?_; rintro e w' ⟨rfl, rfl⟩) | (go_at_call 75; refine HL.out.mono ?_; rintro e w' ⟨rfl, n, rfl⟩))
  go_ret3
  exact ⟨x, y, rfl, HF.out, n, rfl⟩
theorem bluffShare_any (p k : Nat) (hp : p ≤ 199) (hk1 : 1 ≤ k) (hk : k ≤ 100) (w : World) :
    Calls Try.prog 48 #[.int .i64 (p : Int), .int .i64 (k : Int)] w fun e w' => ∃ x y : Nat, e = .returned (.tuple #[.int .i64 (x : Int), .int .i64 (y : Int), .bool true]) ∧ (x * (p + 2 * k) = y * k ∧ 1 ≤ y ∧ x ≤ y ∧ y ≤ 1000) ∧ ∃ n, w' = w.drewN n := by
  have HL := gcds.lowest_any k (p + 2 * k) w (by omega) (by omega) (by omega)
  have hf := gcd_div (m := p + 2 * k) hk1
  have hle : k / Nat.gcd k (p + 2 * k) ≤ (p + 2 * k) / Nat.gcd k (p + 2 * k) := Nat.div_le_div_right (by omega)
  have hle2 : (p + 2 * k) / Nat.gcd k (p + 2 * k) ≤ p + 2 * k := Nat.div_le_self _ _
  obtain ⟨x, hx⟩ := ex_eq (k / Nat.gcd k (p + 2 * k))
  obtain ⟨y, hy⟩ := ex_eq ((p + 2 * k) / Nat.gcd k (p + 2 * k))
  rw [hx, hy] at HL hf hle
  rw [hy] at hle2
  rw [Int.natCast_add, Int.natCast_mul] at HL
  have HF := hide (show x * (p + 2 * k) = y * k ∧ 1 ≤ y ∧ x ≤ y ∧ y ≤ 1000 by
    rcases hf with hf | hf
    · exact ⟨hf.1, hf.2, hle, by omega⟩
    · omega)
  have HL := hide HL
  clear hf hle hle2 hx hy
  have i1 := inB_mk (show (0 : Int) ≤ (p : Int) by omega) (show (p : Int) ≤ 1000000 by omega)
  have i2 := inB_mk (show (1 : Int) ≤ (k : Int) by omega) (show (k : Int) ≤ 1000000 by omega)
  go_enter Try.func48, Try.ntmps48
  go_wp2_with (first | (go_at_call 54; refine (within_any _ _ _ _).mono ?_; rintro e w' ⟨rfl, rfl⟩) | (go_at_call 75; refine HL.out.mono ?_; rintro e w' ⟨rfl, n, rfl⟩))
  go_ret3
  exact ⟨x, y, rfl, HF.out, n, rfl⟩
/-- stakes, values and who is out, as FnPots makes them -/
structure PF (xs ys : List Int) (ob : List Bool) (k : Nat) : Prop where
  xl : xs.length = k
  yl : ys.length = k
  ol : ob.length = k
  x : ∀ i, i < k → 0 ≤ xs.getD i 0 ∧ xs.getD i 0 ≤ 1000
  x0 : 0 < k → 5 ≤ xs.getD 0 0 ∧ ob.getD 0 false = false
  y : ∀ i, i < k → 0 ≤ ys.getD i 0 ∧ ys.getD i 0 ≤ 1000
theorem PF.nil : PF [] [] [] 0 := ⟨rfl, rfl, rfl, fun i h => absurd h (Nat.not_lt_zero i), fun h => absurd h (Nat.lt_irrefl 0), fun i h => absurd h (Nat.not_lt_zero i)⟩
theorem at_app {xs : List Int} {x : Int} {k i : Nat} (h : xs.length = k) (hi : i < k + 1) : (xs ++ [x]).getD i 0 = if i = k then x else xs.getD i 0 := by
  subst h
  by_cases e : i = xs.length
  · subst e; rw [if_pos rfl]; simp [List.getD]
  · rw [if_neg e]; simp [List.getD, List.getElem?_append_left (show i < xs.length by omega)]
theorem at_appB {xs : List Bool} {x : Bool} {k i : Nat} (h : xs.length = k) (hi : i < k + 1) : (xs ++ [x]).getD i false = if i = k then x else xs.getD i false := by
  subst h
  by_cases e : i = xs.length
  · subst e; rw [if_pos rfl]; simp [List.getD]
  · rw [if_neg e]; simp [List.getD, List.getElem?_append_left (show i < xs.length by omega)]
theorem PF.push {xs ys : List Int} {ob : List Bool} {k : Nat} (h : PF xs ys ob k) {x y : Int} {o : Bool} (hx : 0 ≤ x) (hx2 : x ≤ 1000) (h0 : k = 0 → 5 ≤ x ∧ o = false) (hy : 0 ≤ y) (hy2 : y ≤ 1000) : PF (xs ++ [x]) (ys ++ [y]) (ob ++ [o]) (k + 1) := by
  refine ⟨by simp [h.xl], by simp [h.yl], by simp [h.ol], fun i hi => ?_, fun _ => ?_, fun i hi => ?_⟩
  · rw [at_app h.xl hi]
    split
    · exact ⟨hx, hx2⟩
    · exact h.x i (by omega)
  · rw [at_app h.xl (show 0 < k + 1 by omega), at_appB h.ol (show 0 < k + 1 by omega)]
    by_cases e : 0 = k
    · rw [if_pos e, if_pos e]; exact h0 e.symm
    · rw [if_neg e, if_neg e]; exact h.x0 (by omega)
  · rw [at_app h.yl hi]
    split
    · exact ⟨hy, hy2⟩
    · exact h.y i (by omega)
theorem PF.spOk {xs ys : List Int} {ob : List Bool} {k : Nat} (h : PF xs ys ob k) (h1 : 1 ≤ k) (h6 : k ≤ 6) : spOk xs ob = true := by
  have hx := h.x0 (by omega)
  have hb : badB 1000000 0 xs = false := bad_no fun j hj => by
    have := h.x j (by rw [← h.xl]; exact hj)
    exact inB_mk this.1 (by omega)
  have hF : hasF ob = true := by
    have hol := h.ol
    cases ob with
    | nil => simp at hol; omega
    | cons a l => have := hx.2; simp [List.getD] at this; subst this; simp [hasF]
  have hst : stOk xs ob = true := by
    unfold stOk
    rw [decide_eq_true ⟨by rw [h.xl]; exact h1, by rw [h.xl]; exact h6⟩, decide_eq_true (by rw [h.ol, h.xl]), hF, hb]
    rfl
  unfold chance.spOk
  rw [hst, Bool.true_and]
  have hm : xs.getD 0 0 ∈ lvls xs ob xs.length := ((lvls_facts xs ob xs.length).2 _).2 ⟨by omega, 0, by rw [h.xl]; omega, by unfold live; rw [hx.2]; rfl, rfl⟩
  have := List.length_pos_of_mem hm
  simp
  intro e
  rw [e] at hm
  cases hm
theorem PF.shOk {xs ys : List Int} {ob : List Bool} {k : Nat} (h : PF xs ys ob k) (h1 : 1 ≤ k) (h6 : k ≤ 6) : shOk xs ob ys = true := by
  unfold chance.shOk
  rw [h.spOk h1 h6, decide_eq_true (by rw [h.xl, h.yl]), bad_no fun j hj => by
    have := h.y j (by rw [← h.yl]; exact hj)
    exact inB_mk this.1 (by omega)]
  rfl
/-- three lists that a function makes by appending -/
structure Tri (w0 w : World) (v1 v2 v3 : Value) (xs ys : List Int) (ob : List Bool) : Prop where
  a : Lst w w0.heap.size v1 xs
  b : Lst w w0.heap.size v2 ys
  c : LstB w w0.heap.size v3 ob
  s12 : mem.Sep v1 v2
  s13 : mem.Sep v1 v3
  s23 : mem.Sep v2 v3
  low : Below w0.heap.size w0 w
theorem Tri.push1 {w0 w w' : World} {v1 v2 v3 v1' : Value} {xs ys : List Int} {ob : List Bool} {x : Int} (h : Tri w0 w v1 v2 v3 xs ys ob) (o : Obj) (ho : Lst w' w0.heap.size v1' (xs ++ [x])) (hg : (w.alloc o).grownBy w' v1.ownBlock)
    (hk : v1'.ownBlock = v1.ownBlock ∨ v1'.ownBlock = some (w.alloc o).heap.size) : Tri w0 w' v1' v2 v3 (xs ++ [x]) ys ob := by
  have hz : w0.heap.size ≤ (w.alloc o).heap.size := Nat.le_trans h.low.size (by simp)
  exact ⟨ho, (h.b.alloc o).kept hg h.s12.symm, (h.c.alloc o).kept hg h.s13.symm, mem.Sep.app h.s12 hk (fun k hk => ((h.b.alloc o).blk k hk).2), mem.Sep.app h.s13 hk (fun k hk => ((h.c.alloc o).blk k hk).2), h.s23, (h.low.alloc h.low.size o).trans (Lst.grown (h.a.alloc o) hg hz)⟩
theorem Tri.push2 {w0 w w' : World} {v1 v2 v3 v2' : Value} {xs ys : List Int} {ob : List Bool} {y : Int} (h : Tri w0 w v1 v2 v3 xs ys ob) (o : Obj) (ho : Lst w' w0.heap.size v2' (ys ++ [y])) (hg : (w.alloc o).grownBy w' v2.ownBlock)
    (hk : v2'.ownBlock = v2.ownBlock ∨ v2'.ownBlock = some (w.alloc o).heap.size) : Tri w0 w' v1 v2' v3 xs (ys ++ [y]) ob := by
  have hz : w0.heap.size ≤ (w.alloc o).heap.size := Nat.le_trans h.low.size (by simp)
  exact ⟨(h.a.alloc o).kept hg h.s12, ho, (h.c.alloc o).kept hg h.s23.symm, (mem.Sep.app h.s12.symm hk (fun k hk => ((h.a.alloc o).blk k hk).2)).symm, h.s13, mem.Sep.app h.s23 hk (fun k hk => ((h.c.alloc o).blk k hk).2), (h.low.alloc h.low.size o).trans (Lst.grown (h.b.alloc o) hg hz)⟩
theorem Tri.push3 {w0 w w' : World} {v1 v2 v3 v3' : Value} {xs ys : List Int} {ob : List Bool} {z : Bool} (h : Tri w0 w v1 v2 v3 xs ys ob) (o : Obj) (ho : LstB w' w0.heap.size v3' (ob ++ [z])) (hg : (w.alloc o).grownBy w' v3.ownBlock)
    (hk : v3'.ownBlock = v3.ownBlock ∨ v3'.ownBlock = some (w.alloc o).heap.size) : Tri w0 w' v1 v2 v3' xs ys (ob ++ [z]) := by
  have hz : w0.heap.size ≤ (w.alloc o).heap.size := Nat.le_trans h.low.size (by simp)
  exact ⟨(h.a.alloc o).kept hg h.s13, (h.b.alloc o).kept hg h.s23, ho, h.s12, (mem.Sep.app h.s13.symm hk (fun k hk => ((h.a.alloc o).blk k hk).2)).symm, (mem.Sep.app h.s23.symm hk (fun k hk => ((h.b.alloc o).blk k hk).2)).symm, (h.low.alloc h.low.size o).trans (grown_below hg hz (fun k hk => ((h.c.alloc o).blk k hk).1))⟩
/-- what the last test reads -/
def Grf (c o s : Nat) : Prop := ∃ h2 b l n d g, floatBits .quo .f32 s 1073741824 = some h2 ∧ gaOk c o s = true ∧ gaOk c o h2 = true ∧ gaOk c o 0 = true ∧ floatToFloatBits .f32 (gaOut c o s) .f64 = some b ∧ floatToFloatBits .f32 (gaOut c o h2) .f64 = some l ∧ floatToFloatBits .f32 (gaOut c o 0) .f64 = some n ∧
    floatBits .sub .f64 l 4562254508917369340 = some d ∧ (double.order b d == some .gt) = true ∧ gapW n 0 = some g ∧ (double.order g 4562254508917369340 == some .lt) = true
theorem wide_zero : floatToFloatBits .f32 0 .f64 = some 0 := by decide +kernel
theorem gap_zero : gapW 0 0 = some 0 ∧ (double.order 0 4562254508917369340 == some .lt) = true := by decide +kernel
theorem sub_zero : ∃ d, floatBits .sub .f64 0 4562254508917369340 = some d ∧ (double.order 0 d == some .gt) = true := ⟨13785626545772145148, by decide +kernel, by decide +kernel⟩
theorem half_zero : floatBits .quo .f32 0 1073741824 = some 0 := by decide +kernel
theorem grf_zero {c o : Nat} (h : chkZ c o = true) : Grf c o 0 := by
  obtain ⟨_, h2, h3⟩ := gaX_zero h
  obtain ⟨d, hd, ho⟩ := sub_zero
  refine ⟨0, 0, 0, 0, d, 0, half_zero, h2, h2, h2, ?_, ?_, ?_, hd, ho, gap_zero.1, gap_zero.2⟩
  all_goals rw [h3]; exact wide_zero
theorem grf_of {c o s : Nat} (hz : chkZ c o = true) (h : chkC c o s = true) : Grf c o s := by
  obtain ⟨_, z2, z3⟩ := gaX_zero hz
  unfold chkC at h
  cases hb : gaX c o s with
  | none => rw [hb] at h; cases h
  | some b =>
    cases hh : floatBits .quo .f32 s 1073741824 with
    | none => rw [hb, hh] at h; cases h
    | some h2 =>
      rw [hb, hh] at h
      dsimp only at h
      cases hl : gaX c o h2 with
      | none => rw [hl] at h; cases h
      | some l =>
        rw [hl] at h
        simp only [Bool.and_eq_true] at h
        obtain ⟨a1, a2, a3, a4, h⟩ := h
        cases hb2 : floatToFloatBits .f32 b .f64 with
        | none => rw [hb2] at h; cases h
        | some b2 =>
          cases hl2 : floatToFloatBits .f32 l .f64 with
          | none => rw [hb2, hl2] at h; cases h
          | some l2 =>
            rw [hb2, hl2] at h
            dsimp only at h
            cases hd : double.sub l2 c001 with
            | none => rw [hd] at h; cases h
            | some d =>
              rw [hd] at h
              have k1 : gaOk c o s = true := by unfold gaOk; rw [a3, hb, a1]; rfl
              have k2 : gaOk c o h2 = true := by unfold gaOk; rw [a4, hl, a2]; rfl
              have o1 : gaOut c o s = b := by unfold gaOut; rw [if_pos k1, hb]; rfl
              have o2 : gaOut c o h2 = l := by unfold gaOut; rw [if_pos k2, hl]; rfl
              refine ⟨h2, b2, l2, 0, d, 0, hh, k1, k2, z2, by rw [o1]; exact hb2, by rw [o2]; exact hl2, by rw [z3]; exact wide_zero, hd, h, gap_zero.1, gap_zero.2⟩
theorem chkA_split {j k : Nat} (hj : j < 16) (hk : k < 17) : ∃ s, floatBits .quo .f32 (floatOfInt .f32 (k : Int)) 1098907648 = some (chW k) ∧ floatBits .quo .f32 (floatOfInt .f32 (1 + (j : Int))) 1082130432 = some (odW j) ∧ gsOut (chW k) (odW j) = s ∧ gsOk (chW k) (odW j) = true ∧
    (single.order s 0 == some .lt) = false ∧ (single.order s 1065353216 == some .gt) = false ∧ ((single.order s 1065353216 == some .gt || single.order s 1065353216 == some .eq) = true ∨ Grf (chW k) (odW j) s) := by
  have h := chkA_all hj hk
  unfold chkA at h
  simp only [Bool.and_eq_true, Bool.or_eq_true, Bool.not_eq_true'] at h
  obtain ⟨h1, h2, h3, h4, h5, hz, h6⟩ := h
  refine ⟨_, ?_, ?_, rfl, h3, h4, h5, ?_⟩
  · obtain ⟨r, hr⟩ := Option.isSome_iff_exists.1 h1
    unfold chW; rw [hr]; rfl
  · obtain ⟨r, hr⟩ := Option.isSome_iff_exists.1 h2
    unfold odW; rw [hr]; rfl
  · rcases h6 with h6 | h6 | h6
    · left; simpa using h6
    · right
      rw [beq_iff_eq] at h6
      rw [h6]
      exact grf_zero hz
    · exact .inr (grf_of hz h6)

end Go.Proofs.Ytlfffkjgepgcfaa.chance
