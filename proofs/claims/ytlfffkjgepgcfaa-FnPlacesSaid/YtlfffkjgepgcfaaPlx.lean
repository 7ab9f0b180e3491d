/-
  The exact chances of places: they make 1 for each seat and for each place, and more stacks have the first place more often. Conditions: those of each theorem.
-/
import Derived.Test.YtlfffkjgepgcfaaPl
namespace Go.Proofs.Ytlfffkjgepgcfaa.pl
open Go.RowKit
open base mem fl
open Ieee

def rs (f : Nat → Rat) : Nat → Rat
  | 0 => 0
  | m + 1 => rs f m + f m
theorem rs_congr {f g : Nat → Rat} : ∀ n, (∀ k, k < n → f k = g k) → rs f n = rs g n
  | 0, _ => rfl
  | n + 1, h => by
    show rs f n + f n = rs g n + g n
    rw [rs_congr n (fun k hk => h k (by omega)), h n (by omega)]
theorem rs_zero {f : Nat → Rat} (n : Nat) (h : ∀ k, k < n → f k = 0) : rs f n = 0 := by
  rw [rs_congr (g := fun _ => 0) n h]
  induction n with
  | zero => rfl
  | succ n ih => show rs _ n + 0 = 0; rw [ih (fun k hk => h k (by omega))]; grind
theorem rs_add (f g : Nat → Rat) : ∀ n, rs (fun k => f k + g k) n = rs f n + rs g n
  | 0 => by show (0 : Rat) = 0 + 0; grind
  | n + 1 => by
    show rs _ n + _ = (rs f n + _) + (rs g n + _)
    rw [rs_add f g n]; grind
theorem rs_mul (c : Rat) (f : Nat → Rat) : ∀ n, rs (fun k => c * f k) n = c * rs f n
  | 0 => by show (0 : Rat) = c * 0; grind
  | n + 1 => by
    show rs _ n + _ = c * (rs f n + _)
    rw [rs_mul c f n]; grind
theorem rs_swap (f : Nat → Nat → Rat) (m : Nat) : ∀ n, rs (fun i => rs (fun j => f i j) m) n = rs (fun j => rs (fun i => f i j) n) m
  | 0 => by
    show (0 : Rat) = _
    exact (rs_zero m fun _ _ => rfl).symm
  | n + 1 => by
    show rs _ n + _ = _
    rw [rs_swap f m n, ← rs_add]
    rfl
theorem rs_front (f : Nat → Rat) : ∀ n, rs f (n + 1) = f 0 + rs (fun k => f (k + 1)) n
  | 0 => by show 0 + f 0 = f 0 + 0; grind
  | n + 1 => by
    show rs f (n + 1) + _ = _
    rw [rs_front f n]
    show _ = f 0 + (rs _ n + _)
    grind
theorem rs_le {f g : Nat → Rat} : ∀ n, (∀ k, k < n → f k ≤ g k) → rs f n ≤ rs g n
  | 0, _ => Rat.le_refl
  | n + 1, h => by
    show rs f n + f n ≤ rs g n + g n
    have := rs_le n (fun k hk => h k (by omega))
    have := h n (by omega)
    grind
theorem accR_rs (L : Nat → Bool) (i : Nat) (q p : Nat → Rat) : ∀ m, accR L i q p m = rs (fun j => if L j && j != i then q j * p j else 0) m
  | 0 => rfl
  | m + 1 => by
    show (if _ then _ else _) = rs _ m + _
    rw [← accR_rs L i q p m]
    dsimp only
    split
    · rfl
    · grind
section
variable {xs : List Int} {L : Nat → Bool}
theorem partR_rs (g : Good xs) {i : Nat} (hi : i < xs.length) (hL : L i = true) : ∀ m, partR xs L m = rs (fun j => if L j then qR xs L j else 0) m
  | 0 => partR_zero
  | m + 1 => by
    rw [partR_succ g hi hL, partR_rs g hi hL m]; rfl
theorem qR_all (g : Good xs) {i : Nat} (hi : i < xs.length) (hL : L i = true) : rs (fun j => if L j then qR xs L j else 0) xs.length = 1 := by
  rw [← partR_rs g hi hL, partR_all g hi hL]
theorem cnt_some : ∀ n, 1 ≤ cntL L n → ∃ i, i < n ∧ L i = true
  | 0, h => absurd h (by simp [cntL])
  | n + 1, h => by
    by_cases hn : L n = true
    · exact ⟨n, by omega, hn⟩
    · unfold cntL at h
      rw [if_neg hn] at h
      obtain ⟨i, h1, h2⟩ := cnt_some n h
      exact ⟨i, by omega, h2⟩
theorem cnt_of {i : Nat} : ∀ n, i < n → L i = true → 1 ≤ cntL L n
  | 0, h, _ => absurd h (by omega)
  | n + 1, h, hL => by
    unfold cntL
    by_cases he : i = n
    · subst he; rw [hL, if_pos rfl]; omega
    · have := cnt_of n (by omega) hL
      omega
theorem col_one (g : Good xs) : ∀ (k : Nat) (L : Nat → Bool), k + 1 ≤ cntL L xs.length → rs (fun i => if L i then PR xs k L i else 0) xs.length = 1
  | 0, L, h => by
    obtain ⟨i, hi, hL⟩ := cnt_some _ (show 1 ≤ cntL L xs.length by omega)
    exact qR_all g hi hL
  | k + 1, L, h => by
    obtain ⟨i0, hi0, hL0⟩ := cnt_some _ (show 1 ≤ cntL L xs.length by omega)
    have e1 : rs (fun i => if L i then PR xs (k + 1) L i else 0) xs.length = rs (fun i => rs (fun j => if L j then qR xs L j * (if rm L j i then PR xs k (rm L j) i else 0) else 0) xs.length) xs.length := by
      refine rs_congr _ fun i hi => ?_
      by_cases hLi : L i = true
      · rw [if_pos hLi]
        show accR _ _ _ _ _ = _
        rw [accR_rs]
        refine rs_congr _ fun j hj => ?_
        by_cases hLj : L j = true
        · rw [if_pos hLj]
          by_cases hji : j = i
          · subst hji
            rw [rm_self, if_neg (by simp), if_neg (by simp)]; grind
          · rw [rm_ne (fun e => hji e.symm), if_pos hLi, if_pos (by simp [hLj, hji])]
        · rw [if_neg hLj, if_neg (by simp [hLj])]
      · rw [if_neg hLi]
        refine (rs_zero _ fun j hj => ?_).symm
        have : rm L j i = false := by simp [rm, hLi]
        rw [this]
        split <;> simp
    rw [e1, rs_swap]
    rw [← qR_all g hi0 hL0]
    refine rs_congr _ fun j hj => ?_
    by_cases hLj : L j = true
    · simp only [if_pos hLj]
      rw [rs_mul]
      have hc := cntL_rm L j xs.length
      rw [if_pos ⟨hj, hLj⟩] at hc
      rw [col_one g k (rm L j) (by omega), Rat.mul_one]
    · simp only [if_neg hLj]
      exact rs_zero _ fun _ _ => rfl
theorem q_split {i : Nat} (hL : L i = true) (q : Nat → Rat) : ∀ n, rs (fun j => if L j then q j else 0) n = rs (fun j => if L j && j != i then q j else 0) n + (if i < n then q i else 0)
  | 0 => by rw [if_neg (by omega)]; show (0 : Rat) = 0 + 0; grind
  | n + 1 => by
    show rs _ n + _ = (rs _ n + _) + _
    rw [q_split hL q n]
    dsimp only
    by_cases he : n = i
    · subst he
      rw [hL, if_pos rfl, if_neg (Nat.lt_irrefl _), if_pos (Nat.lt_succ_self _)]
      simp
    · by_cases hlt : i < n
      · rw [if_pos hlt, if_pos (show i < n + 1 by omega)]
        have : (n != i) = true := by simpa using he
        rw [this, Bool.and_true]; grind
      · rw [if_neg hlt, if_neg (show ¬ i < n + 1 by omega)]
        have : (n != i) = true := by simpa using he
        rw [this, Bool.and_true]; grind
theorem row_one (g : Good xs) {i : Nat} (hi : i < xs.length) : ∀ (m : Nat) (L : Nat → Bool), cntL L xs.length = m → L i = true → rs (fun k => PR xs k L i) m = 1
  | 0, L, hc, hL => by
    have := cnt_of _ hi hL
    omega
  | m + 1, L, hc, hL => by
    rw [rs_front]
    have e1 : rs (fun k => PR xs (k + 1) L i) m = rs (fun j => if L j && j != i then qR xs L j else 0) xs.length := by
      have e2 : rs (fun k => PR xs (k + 1) L i) m = rs (fun k => rs (fun j => if L j && j != i then qR xs L j * PR xs k (rm L j) i else 0) xs.length) m := by
        refine rs_congr _ fun k hk => ?_
        show accR _ _ _ _ _ = _
        rw [accR_rs]
      rw [e2, rs_swap]
      refine rs_congr _ fun j hj => ?_
      by_cases h1 : (L j && j != i) = true
      · simp only [if_pos h1]
        rw [rs_mul]
        simp at h1
        have hLi : rm L j i = true := by rw [rm_ne (fun e => h1.2 e.symm)]; exact hL
        have hc2 := cntL_rm L j xs.length
        rw [if_pos ⟨hj, h1.1⟩] at hc2
        rw [row_one g hi m (rm L j) (by omega) hLi, Rat.mul_one]
      · simp only [if_neg h1]
        exact rs_zero _ fun _ _ => rfl
    rw [e1]
    have h2 := qR_all g hi hL
    rw [q_split hL, if_pos hi] at h2
    show qR xs L i + _ = 1
    grind
end
def allL : Nat → Bool := fun _ => true
theorem cnt_all : ∀ n, cntL allL n = n
  | 0 => rfl
  | n + 1 => by show cntL allL n + 1 = _; rw [cnt_all n]
end Go.Proofs.Ytlfffkjgepgcfaa.pl
