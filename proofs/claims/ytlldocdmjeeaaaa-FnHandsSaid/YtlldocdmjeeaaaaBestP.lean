/-
  The best five of five to seven cards, in numbers alone. Conditions: those of each theorem.
-/
import Derived.Test.YtlldocdmjeeaaaaLookP
namespace Go.Proofs.Ytlldocdmjeeaaaa.hand
open Go.RowKit
open base mem

/-! ### the best five of a hand, in numbers alone -/
def upd (st : List Int × Int) (five : List Int) : List Int × Int := if st.2 < valL five then (five, valL five) else st
/-- 'k' cards more are picked behind 'pre', out of l, in the order of their places -/
def pk : Nat → List Int → List Int → List Int × Int → List Int × Int
  | 0, pre, [], st => upd st pre
  | 0, pre, _ :: _, st => upd st pre
  | _ + 1, _, [], st => st
  | k + 1, pre, x :: l, st => pk (k + 1) pre l (pk k (pre ++ [x]) l st)
theorem pk_zero (pre l : List Int) (st : List Int × Int) : pk 0 pre l st = upd st pre := by cases l <;> rfl
theorem pk_nil (k : Nat) (pre : List Int) (st : List Int × Int) : pk (k + 1) pre [] st = st := rfl
theorem pk_drop (k : Nat) (pre xs : List Int) (st : List Int × Int) (i : Nat) (hi : i < xs.length) :
    pk (k + 1) pre (xs.drop i) st = pk (k + 1) pre (xs.drop (i + 1)) (pk k (pre ++ [xs.getD i 0]) (xs.drop (i + 1)) st) := by
  rw [List.drop_eq_getElem_cons hi]
  have : xs.getD i 0 = xs[i] := by simp [List.getD, hi]
  rw [this]
  rfl
theorem pk_over (k : Nat) (pre xs : List Int) (st : List Int × Int) (i : Nat) (hi : xs.length ≤ i) : pk (k + 1) pre (xs.drop i) st = st := by
  rw [List.drop_eq_nil_of_le hi]
  rfl
def bestL (xs : List Int) : List Int × Int := pk 5 [] xs ([], -1)
/-- five different cards -/
def Fine (xs : List Int) : Prop := xs.Nodup ∧ ∀ x ∈ xs, 0 ≤ x ∧ x < 52
theorem Fine.sub {xs ys : List Int} (h : Fine xs) (hs : ys.Sublist xs) : Fine ys := ⟨hs.nodup h.1, fun x hx => h.2 x (hs.subset hx)⟩
theorem Fine.left {xs ys : List Int} (h : Fine (xs ++ ys)) : Fine xs := h.sub (List.sublist_append_left _ _)
theorem Fine.pick {pre xs : List Int} {i : Nat} (h : Fine (pre ++ xs.drop i)) (hi : i < xs.length) : Fine ((pre ++ [xs.getD i 0]) ++ xs.drop (i + 1)) := by
  have e : xs.getD i 0 = xs[i] := by simp [List.getD, hi]
  rw [List.drop_eq_getElem_cons hi] at h
  rw [e, List.append_assoc]
  exact h
theorem Fine.skip {pre xs : List Int} {i : Nat} (h : Fine (pre ++ xs.drop i)) : Fine (pre ++ xs.drop (i + 1)) := by
  refine h.sub (List.Sublist.append_left ?_ pre)
  rw [show i + 1 = i + 1 from rfl, ← List.drop_drop]
  exact List.drop_sublist _ _
/-- what the best so far is like -/
def Okst (st : List Int × Int) : Prop := (st.1 = [] ∧ st.2 = -1) ∨ (st.1.length = 5 ∧ Fine st.1 ∧ valL st.1 = st.2 ∧ 0 ≤ st.2 ∧ st.2 < 3341637)
theorem upd_ok {st : List Int × Int} {five : List Int} (h : Okst st) (h5 : five.length = 5) (hf : Fine five) : Okst (upd st five) ∧ st.2 ≤ (upd st five).2 ∧ 0 ≤ (upd st five).2 := by
  have hv := valL_range hf.1 hf.2 h5
  unfold upd
  by_cases hlt : st.2 < valL five
  · rw [if_pos hlt]
    exact ⟨.inr ⟨h5, hf, rfl, hv.1, hv.2⟩, by show st.2 ≤ valL five; omega, hv.1⟩
  · rw [if_neg hlt]
    exact ⟨h, Int.le_refl _, by omega⟩
theorem pk_ok : ∀ (l : List Int) (k : Nat) (pre : List Int) (st : List Int × Int), Okst st → k + pre.length = 5 → Fine (pre ++ l) → Okst (pk k pre l st) ∧ st.2 ≤ (pk k pre l st).2 ∧ (k ≤ l.length → 0 ≤ (pk k pre l st).2)
  | l, 0, pre, st, h, h5, hf => by
    rw [pk_zero]
    have := upd_ok h (five := pre) (by omega) hf.left
    exact ⟨this.1, this.2.1, fun _ => this.2.2⟩
  | [], k + 1, pre, st, h, h5, hf => ⟨h, Int.le_refl _, fun hk => absurd hk (by simp)⟩
  | x :: l, k + 1, pre, st, h, h5, hf => by
    have hf1 : Fine ((pre ++ [x]) ++ l) := by rw [List.append_assoc]; exact hf
    have hf2 : Fine (pre ++ l) := hf.sub (List.Sublist.append_left (List.sublist_cons_self _ _) pre)
    have h1 := pk_ok l k (pre ++ [x]) st h (by simp; omega) hf1
    have h2 := pk_ok l (k + 1) pre _ h1.1 h5 hf2
    refine ⟨h2.1, Int.le_trans h1.2.1 h2.2.1, fun hk => ?_⟩
    have := h1.2.2 (by simpa using hk)
    exact Int.le_trans this h2.2.1
theorem best_ok {xs : List Int} (hf : Fine xs) (h5 : 5 ≤ xs.length) : (bestL xs).1.length = 5 ∧ Fine (bestL xs).1 ∧ valL (bestL xs).1 = (bestL xs).2 ∧ 0 ≤ (bestL xs).2 ∧ (bestL xs).2 < 3341637 := by
  have h := pk_ok xs 5 [] ([], -1) (.inl ⟨rfl, rfl⟩) rfl (by simpa using hf)
  have h0 := h.2.2 h5
  rcases h.1 with ⟨_, e⟩ | h
  · unfold bestL; omega
  · exact h

end Go.Proofs.Ytlldocdmjeeaaaa.hand
