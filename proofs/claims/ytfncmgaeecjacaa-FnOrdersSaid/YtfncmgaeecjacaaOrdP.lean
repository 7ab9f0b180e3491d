/-
  Signs, cycles, ranks of orders, and what the statement on orders asks of them, in plain words. Conditions: those of each theorem.
-/
import Derived.Test.YtfncmgaeecjacaaOrder
import Derived.Test.YtfncmgaeecjacaaShuP
import Derived.Test.YtfncmgaeecjacaaUnrank
import Derived.Test.YtfncmgaeecjacaaSign
import Derived.Test.YtfncmgaeecjacaaJoin
import Derived.Test.YtfncmgaeecjacaaBack
import Derived.Test.YtfncmgaeecjacaaShuQ
namespace Go.Proofs.Ytfncmgaeecjacaa.orb
open Go.RowKit
open base mem deck

/-- a function that moves the numbers below n among themselves -/
structure PF (n : Nat) (f : Nat → Nat) : Prop where
  lt : ∀ x, x < n → f x < n
  inj : ∀ x y, x < n → y < n → f x = f y → x = y
def dl (n : Nat) (f : Nat → Nat) (x : Nat) : Nat := if f x = n then f n else f x
theorem PF.del {n : Nat} {f : Nat → Nat} (h : PF (n + 1) f) : PF n (dl n f) where
  lt x hx := by
    unfold dl
    have h1 := h.lt x (by omega)
    have h2 := h.lt n (by omega)
    split
    · next e =>
      rcases Nat.lt_or_ge (f n) n with h3 | h3
      · exact h3
      · have := h.inj x n (by omega) (by omega) (by omega); omega
    · omega
  inj x y hx hy e := by
    unfold dl at e
    have hxy := h.inj x y (by omega) (by omega)
    split at e
    · next e1 =>
      split at e
      · next e2 => exact hxy (by omega)
      · next e2 => have := h.inj n y (by omega) (by omega) e; omega
    · next e1 =>
      split at e
      · next e2 => have := h.inj x n (by omega) (by omega) e; omega
      · next e2 => exact hxy e
/-- the sign: true for odd -/
def sg : Nat → (Nat → Nat) → Bool
  | 0, _ => false
  | n + 1, f => (decide (f n ≠ n)) ^^ sg n (dl n f)
theorem sg_congr : ∀ (n : Nat) (f g : Nat → Nat), (∀ x, x < n → f x = g x) → sg n f = sg n g
  | 0, _, _, _ => rfl
  | n + 1, f, g, h => by
    unfold sg
    rw [h n (by omega), sg_congr n (dl n f) (dl n g) (fun x hx => by unfold dl; rw [h x (by omega), h n (by omega)])]
def sw (i j x : Nat) : Nat := if x = i then j else if x = j then i else x
theorem sw_symm (i j x : Nat) : sw i j x = sw j i x := by
  unfold sw
  split <;> split <;> simp_all
theorem sw_lt {i j x n : Nat} (hi : i < n) (hj : j < n) (hx : x < n) : sw i j x < n := by unfold sw; split; exact hj; split; exact hi; exact hx
theorem sw_sw (i j x : Nat) : sw i j (sw i j x) = x := by
  unfold sw; split
  · split <;> simp_all
  · split <;> simp_all
theorem PF.sw {n i j : Nat} {p : Nat → Nat} (h : PF n p) (hi : i < n) (hj : j < n) : PF n (fun x => sw i j (p x)) where
  lt x hx := sw_lt hi hj (h.lt x hx)
  inj x y hx hy e := h.inj x y hx hy (by have := congrArg (orb.sw i j) e; simpa [sw_sw] using this)
theorem sw_l (i j : Nat) : sw i j i = j := by unfold sw; rw [if_pos rfl]
theorem sw_r (i j : Nat) : sw i j j = i := by rw [sw_symm]; exact sw_l j i
theorem sw_o {i j x : Nat} (h1 : x ≠ i) (h2 : x ≠ j) : sw i j x = x := by unfold sw; rw [if_neg h1, if_neg h2]
theorem dl_yes {n : Nat} {f : Nat → Nat} {x : Nat} (h : f x = n) : dl n f x = f n := if_pos h
theorem dl_no {n : Nat} {f : Nat → Nat} {x : Nat} (h : f x ≠ n) : dl n f x = f x := if_neg h
theorem PF.top {n : Nat} {p : Nat → Nat} (hp : PF (n + 1) p) (h : p n ≠ n) : p n < n := by have := hp.lt n (by omega); omega
theorem PF.ne {n x y : Nat} {p : Nat → Nat} (hp : PF n p) (hx : x < n) (hy : y < n) (h : x ≠ y) : p x ≠ p y := fun e => h (hp.inj x y hx hy e)
theorem sg_one {n i : Nat} {p : Nat → Nat} (hp : PF (n + 1) p) (hi : i < n) (ih : ∀ (i j : Nat) (p : Nat → Nat), PF n p → i < n → j < n → i ≠ j → sg n (fun x => sw i j (p x)) = !sg n p) : sg (n + 1) (fun x => sw i n (p x)) = !sg (n + 1) p := by
  have hin : n ≠ i := by omega
  have hni : i ≠ n := by omega
  rw [sg, sg]
  by_cases h1 : p n = n
  · rw [sg_congr n (dl n fun x => sw i n (p x)) (dl n p) (fun x hx => by
      have h3 : p x ≠ n := by rw [← h1]; exact hp.ne (by omega) (by omega) (by omega)
      rw [dl_no h3]
      by_cases h4 : p x = i
      · rw [dl_yes (by rw [h4, sw_l]), h4, h1, sw_r]
      · have h5 : sw i n (p x) = p x := sw_o h4 h3
        rw [dl_no (by rw [h5]; exact h3), h5])]
    rw [h1, sw_r]
    simp [hni]
  · have hm := hp.top h1
    by_cases h2 : p n = i
    · rw [sg_congr n (dl n fun x => sw i n (p x)) (dl n p) (fun x hx => by
        have h3 : p x ≠ i := by rw [← h2]; exact hp.ne (by omega) (by omega) (by omega)
        by_cases h4 : p x = n
        · rw [dl_yes h4, dl_no (by rw [h4, sw_r]; exact hni), h4, sw_r, h2]
        · have h5 : sw i n (p x) = p x := sw_o h3 h4
          rw [dl_no h4, dl_no (by rw [h5]; exact h4), h5])]
      rw [h2, sw_l]
      simp [hni]
    · have e1 : sw i n (p n) = p n := sw_o h2 h1
      rw [sg_congr n (dl n fun x => sw i n (p x)) (fun x => sw i (p n) (dl n p x)) (fun x hx => by
        have h5 : p x ≠ p n := hp.ne (by omega) (by omega) (by omega)
        by_cases h4 : p x = n
        · rw [dl_yes h4, dl_no (by rw [h4, sw_r]; exact hni), h4, sw_r, sw_r]
        · rw [dl_no h4]
          by_cases h6 : p x = i
          · rw [dl_yes (by rw [h6, sw_l]), h6, e1, sw_l]
          · have h7 : sw i n (p x) = p x := sw_o h6 h4
            rw [dl_no (by rw [h7]; exact h4), h7, sw_o h6 h5]), ih i (p n) (dl n p) hp.del hi hm (fun e => h2 e.symm)]
      rw [e1]
      simp [h1]
theorem sg_sw : ∀ (n i j : Nat) (p : Nat → Nat), PF n p → i < n → j < n → i ≠ j → sg n (fun x => sw i j (p x)) = !sg n p
  | 0, _, _, _, _, hi, _, _ => by omega
  | n + 1, i, j, p, hp, hi, hj, hij => by
    have ih := sg_sw n
    by_cases h1 : i = n
    · subst h1
      have h2 := sg_one hp (show j < i by omega) ih
      rw [← h2]
      exact sg_congr _ _ _ fun x _ => sw_symm _ _ _
    · by_cases h2 : j = n
      · subst h2; exact sg_one hp (by omega) ih
      · have key : ∀ x, sw i j x = n ↔ x = n := fun x => by
          constructor
          · intro e
            have := congrArg (sw i j) e
            rw [sw_sw, sw_o (fun e => h1 e.symm) (fun e => h2 e.symm)] at this
            exact this
          · intro e; rw [e, sw_o (fun e => h1 e.symm) (fun e => h2 e.symm)]
        rw [sg, sg, sg_congr n (dl n fun x => sw i j (p x)) (fun x => sw i j (dl n p x)) (fun x hx => by
          by_cases h4 : p x = n
          · have h5 : dl n (fun x => sw i j (p x)) x = sw i j (p n) := dl_yes ((key _).2 h4)
            rw [dl_yes h4, h5]
          · have h5 : dl n (fun x => sw i j (p x)) x = sw i j (p x) := dl_no (fun e => h4 ((key _).1 e))
            rw [dl_no h4, h5]), ih i j (dl n p) hp.del (by omega) (by omega) hij]
        have e1 : decide (sw i j (p n) ≠ n) = decide (p n ≠ n) := decide_eq_decide.2 (not_congr (key _))
        rw [e1]
        simp
theorem sg_id : ∀ (n : Nat) (f : Nat → Nat), (∀ x, x < n → f x = x) → sg n f = false
  | 0, _, _ => rfl
  | n + 1, f, h => by
    rw [sg, sg_id n (dl n f) (fun x hx => by unfold dl; rw [h x (by omega), if_neg (by omega)]), h n (by omega)]
    simp
theorem PF.comp {n : Nat} {f g : Nat → Nat} (hf : PF n f) (hg : PF n g) : PF n (fun x => f (g x)) where
  lt x hx := hf.lt _ (hg.lt x hx)
  inj x y hx hy e := hg.inj x y hx hy (hf.inj _ _ (hg.lt x hx) (hg.lt y hy) e)
theorem sg_mul {n : Nat} {g : Nat → Nat} (hg : PF n g) : ∀ (m : Nat) (f : Nat → Nat), PF n f → (∀ x, m ≤ x → x < n → f x = x) → sg n (fun x => f (g x)) = (sg n f ^^ sg n g)
  | 0, f, _, h => by
    rw [sg_id n f (fun x hx => h x (Nat.zero_le _) hx), Bool.false_xor]
    exact sg_congr _ _ _ fun x hx => h _ (Nat.zero_le _) (hg.lt x hx)
  | m + 1, f, hf, h => by
    by_cases hm : m < n
    · by_cases hx : f m = m
      · exact sg_mul hg m f hf fun x h1 h2 => by
          rcases Nat.lt_or_eq_of_le h1 with h3 | h3
          · exact h x h3 h2
          · rw [← h3]; exact hx
      · have hf' := hf.sw hm (hf.lt m hm)
        have ih := sg_mul hg m _ hf' fun x h1 h2 => by
          rcases Nat.lt_or_eq_of_le h1 with h3 | h3
          · have h4 := h x h3 h2
            have h5 : f m ≠ x := fun e => by have := hf.inj m x hm h2 (by omega); omega
            show sw m (f m) (f x) = x
            rw [h4, sw_o (by omega) (fun e => h5 e.symm)]
          · rw [← h3]; exact sw_r m (f m)
        have h1 := sg_sw n m (f m) _ hf' hm (hf.lt m hm) (fun e => hx e.symm)
        have h2 := sg_sw n m (f m) _ (hf'.comp hg) hm (hf.lt m hm) (fun e => hx e.symm)
        simp only [sw_sw] at h1 h2
        rw [h1, h2, ih]
        cases sg n fun x => sw m (f m) (f x) <;> cases sg n g <;> rfl
    · exact sg_mul hg m f hf fun x h1 h2 => by omega
/-! orbits -/
def it (f : Nat → Nat) : Nat → Nat → Nat
  | 0, x => x
  | k + 1, x => f (it f k x)
theorem it_add (f : Nat → Nat) (j k x : Nat) : it f (j + k) x = it f j (it f k x) := by
  induction j with
  | zero => rw [Nat.zero_add]; rfl
  | succ j ih => rw [show j + 1 + k = (j + k) + 1 by omega, it, it, ih]
theorem it_out (f : Nat → Nat) (k x : Nat) : it f (k + 1) x = it f k (f x) := it_add f k 1 x
theorem PF.it {n : Nat} {f : Nat → Nat} (h : PF n f) {x : Nat} (hx : x < n) (k : Nat) : it f k x < n := by
  induction k with
  | zero => exact hx
  | succ k ih => exact h.lt _ ih
def mn (f : Nat → Nat) (x : Nat) : Prop := ∀ k, x ≤ it f k x
theorem dl_it {n : Nat} {f : Nat → Nat} {x : Nat} (k : Nat) : ∃ k', it (dl n f) k x = it f k' x := by
  induction k with
  | zero => exact ⟨0, rfl⟩
  | succ k ih =>
    obtain ⟨k', e⟩ := ih
    rw [it, e]
    unfold dl
    by_cases h1 : f (it f k' x) = n
    · rw [if_pos h1]; exact ⟨k' + 2, by rw [it, it, h1]⟩
    · rw [if_neg h1]; exact ⟨k' + 1, rfl⟩
theorem it_dl {n : Nat} {f : Nat → Nat} (hp : PF (n + 1) f) {x : Nat} (hx : x < n) (k : Nat) : (it f k x < n ∧ ∃ k', it (dl n f) k' x = it f k x) ∨ (it f k x = n ∧ ∃ k', it (dl n f) k' x < n ∧ f (it (dl n f) k' x) = n) := by
  induction k with
  | zero => exact .inl ⟨hx, 0, rfl⟩
  | succ k ih =>
    rcases ih with ⟨h1, k', e⟩ | ⟨h1, k', e1, e2⟩
    · have h2 := hp.lt (it f k x) (by omega)
      by_cases h3 : f (it f k x) = n
      · exact .inr ⟨h3, k', by rw [e]; exact h1, by rw [e]; exact h3⟩
      · refine .inl ⟨?_, k' + 1, ?_⟩
        · rw [it]; omega
        · rw [it, e]; unfold dl; rw [if_neg h3]; rfl
    · have h2 := hp.lt n (by omega)
      have h3 : f n ≠ n := fun e => by have := hp.inj n _ (by omega) (show it (dl n f) k' x < n + 1 by omega) (by omega); omega
      refine .inl ⟨?_, k' + 1, ?_⟩
      · rw [it, h1]; omega
      · rw [it, it, h1]; exact dl_yes e2
theorem mn_del {n : Nat} {f : Nat → Nat} (hp : PF (n + 1) f) {x : Nat} (hx : x < n) : mn f x ↔ mn (dl n f) x := by
  constructor
  · intro h k
    obtain ⟨k', e⟩ := dl_it (n := n) (f := f) (x := x) k
    rw [e]; exact h k'
  · intro h k
    rcases it_dl hp hx k with ⟨_, k', e⟩ | ⟨e, _⟩
    · rw [← e]; exact h k'
    · omega
theorem mn_top {n : Nat} {f : Nat → Nat} (hp : PF (n + 1) f) : mn f n ↔ f n = n := by
  constructor
  · intro h
    have h1 := h 1
    have h2 := hp.lt n (by omega)
    have h3 : it f 1 n = f n := rfl
    omega
  · intro h k
    have : it f k n = n := by
      induction k with
      | zero => rfl
      | succ k ih => rw [it, ih, h]
    omega
open Classical in
/-- how many of the numbers below m are the least of their orbits -/
noncomputable def cn (f : Nat → Nat) : Nat → Nat
  | 0 => 0
  | m + 1 => cn f m + if mn f m then 1 else 0
theorem cn_yes {f : Nat → Nat} {m : Nat} (h : mn f m) : cn f (m + 1) = cn f m + 1 := by rw [cn, if_pos h]
theorem cn_no {f : Nat → Nat} {m : Nat} (h : ¬ mn f m) : cn f (m + 1) = cn f m := by rw [cn, if_neg h]; rfl
theorem cn_congr {f g : Nat → Nat} : ∀ m, (∀ x, x < m → (mn f x ↔ mn g x)) → cn f m = cn g m
  | 0, _ => rfl
  | m + 1, h => by
    have ih := cn_congr m fun x hx => h x (by omega)
    by_cases h1 : mn f m
    · rw [cn_yes h1, cn_yes ((h m (by omega)).1 h1), ih]
    · rw [cn_no h1, cn_no (fun h2 => h1 ((h m (by omega)).2 h2)), ih]
theorem sg_cn : ∀ (n : Nat) (f : Nat → Nat), PF n f → cn f n ≤ n ∧ sg n f = decide ((n - cn f n) % 2 = 1)
  | 0, _, _ => ⟨Nat.le_refl _, rfl⟩
  | n + 1, f, hp => by
    obtain ⟨h1, h2⟩ := sg_cn n _ hp.del
    have h3 := cn_congr n fun x hx => mn_del hp hx
    rw [sg, h2, ← h3]
    rw [← h3] at h1
    by_cases h4 : f n = n
    · rw [cn_yes ((mn_top hp).2 h4)]
      refine ⟨by omega, ?_⟩
      rw [show n + 1 - (cn f n + 1) = n - cn f n by omega]
      simp [h4]
    · rw [cn_no (fun h => h4 ((mn_top hp).1 h))]
      refine ⟨by omega, ?_⟩
      rw [show n + 1 - cn f n = n - cn f n + 1 by omega]
      simp only [ne_eq, h4, not_false_eq_true, decide_true, Bool.true_xor]
      rcases Nat.mod_two_eq_zero_or_one (n - cn f n) with h5 | h5
      · rw [h5, show (n - cn f n + 1) % 2 = 1 by omega]; rfl
      · rw [h5, show (n - cn f n + 1) % 2 = 0 by omega]; rfl

/-! the walk of the cycles -/
def fnL (xs : List Int) (x : Nat) : Nat := (xs.getD x 0).toNat
theorem mark_at {S : List Bool} {q x : Nat} (hq : q < S.length) : (S.set q true).getD x false = true ↔ S.getD x false = true ∨ q = x := by
  by_cases h : q = x
  · subst h; simp [List.getD, hq]
  · simp [List.getD, List.getElem?_set_ne h, h]
theorem cyc_run {xs : List Int} {n i : Nat} (hp : PF n (fnL xs)) (hi : i < n) {S0 : List Bool} (h0 : S0.getD i false = false) (hS0 : ∀ x, x < n → S0.getD (fnL xs x) false = true → S0.getD x false = true) :
    ∀ (fu m : Nat) (S : List Bool), S.length = n → S.count false < fu → (∀ x, x < n → (S.getD x false = true ↔ S0.getD x false = true ∨ ∃ j, j < m ∧ it (fnL xs) j i = x)) →
      (∀ j j', j < m → j' < m → it (fnL xs) j i = it (fnL xs) j' i → j = j') →
      ∃ M, (cycR xs fu S (it (fnL xs) m i) m).2 = M ∧ 1 ≤ M ∧ it (fnL xs) M i = i ∧ ∀ x, x < n → ((cycR xs fu S (it (fnL xs) m i) m).1.getD x false = true ↔ S0.getD x false = true ∨ ∃ j, j < M ∧ it (fnL xs) j i = x)
  | 0, _, _, _, h, _, _ => by omega
  | fu + 1, m, S, hl, hc, hm, hd => by
    have hq := hp.it hi m
    have hfree : ∀ m, ¬ S0.getD (it (fnL xs) m i) false = true := by
      intro m
      induction m with
      | zero => rw [it, h0]; simp
      | succ m ih => exact fun h => ih (hS0 _ (hp.it hi m) h)
    cases h : S.getD (it (fnL xs) m i) false
    · rw [cycR_step h]
      have hcm := count_mark (by rw [hl]; exact hq) h
      have hnot : ∀ j, j < m → it (fnL xs) j i ≠ it (fnL xs) m i := fun j hj e => by
        rw [(hm _ hq).2 (.inr ⟨j, hj, e⟩)] at h
        cases h
      refine cyc_run hp hi h0 hS0 fu (m + 1) _ (by rw [List.length_set, hl]) (by omega) (fun x hx => ?_) (fun j j' hj hj' e => ?_)
      · rw [mark_at (by rw [hl]; exact hq), hm x hx]
        constructor
        · rintro ((h1 | ⟨j, hj, e⟩) | h1)
          · exact .inl h1
          · exact .inr ⟨j, by omega, e⟩
          · exact .inr ⟨m, by omega, h1⟩
        · rintro (h1 | ⟨j, hj, e⟩)
          · exact .inl (.inl h1)
          · rcases Nat.lt_or_eq_of_le (Nat.le_of_lt_succ hj) with h2 | h2
            · exact .inl (.inr ⟨j, h2, e⟩)
            · exact .inr (by rw [← h2]; exact e)
      · rcases Nat.lt_or_eq_of_le (Nat.le_of_lt_succ hj) with h2 | h2
        · rcases Nat.lt_or_eq_of_le (Nat.le_of_lt_succ hj') with h3 | h3
          · exact hd j j' h2 h3 e
          · subst h3; exact absurd e (hnot j h2)
        · rcases Nat.lt_or_eq_of_le (Nat.le_of_lt_succ hj') with h3 | h3
          · subst h2; exact absurd e.symm (hnot j' h3)
          · omega
    · rw [cycR_stop h]
      rcases (hm _ hq).1 h with h1 | ⟨j, hj, e⟩
      · exact absurd h1 (hfree m)
      · have hj0 : j = 0 := by
          rcases Nat.eq_zero_or_pos j with h2 | h2
          · exact h2
          · obtain ⟨j, rfl⟩ : ∃ k, j = k + 1 := ⟨j - 1, by omega⟩
            obtain ⟨m, rfl⟩ : ∃ k, m = k + 1 := ⟨m - 1, by omega⟩
            have e2 := hp.inj _ _ (hp.it hi j) (hp.it hi m) e
            have := hd j m (by omega) (by omega) e2
            omega
        subst hj0
        exact ⟨m, rfl, by omega, e.symm, hm⟩
theorem it_mul {f : Nat → Nat} {M x : Nat} (h : it f M x = x) : ∀ k, it f (k * M) x = x
  | 0 => by rw [Nat.zero_mul]; rfl
  | k + 1 => by rw [Nat.add_mul, Nat.one_mul, it_add, h, it_mul h k]
theorem it_comm (f : Nat → Nat) (j k x : Nat) : it f j (it f k x) = it f k (it f j x) := by rw [← it_add, ← it_add, Nat.add_comm]
structure CI (xs : List Int) (n i : Nat) : Prop where
  seen : ∀ x, x < n → ((stC xs n i).1.getD x false = true ↔ ∃ k, it (fnL xs) k x < i)
  many : (stC xs n i).2.length = cn (fnL xs) i
  back : ∀ x, x < n → (stC xs n i).1.getD x false = true → ∃ L : Nat, (L : Int) ∈ (stC xs n i).2 ∧ it (fnL xs) L x = x
theorem ci_all {xs : List Int} {n : Nat} (hp : PF n (fnL xs)) : ∀ i, i ≤ n → CI xs n i
  | 0, _ => ⟨fun x hx => by simp [stC, List.getD, hx], rfl, fun x hx h => by simp [stC, List.getD, hx] at h⟩
  | i + 1, hi => by
    have ih := ci_all hp i (by omega)
    have hl := stC_len1 xs n i
    cases h : (stC xs n i).1.getD i false
    · have hmn : mn (fnL xs) i := fun k => by
        rcases Nat.lt_or_ge (it (fnL xs) k i) i with h1 | h1
        · rw [(ih.seen i (by omega)).2 ⟨k, h1⟩] at h; cases h
        · exact h1
      have hcnt : (stC xs n i).1.count false ≤ n := Nat.le_trans List.count_le_length (Nat.le_of_eq hl)
      obtain ⟨M, hM, h1, hb, hs⟩ := cyc_run hp (show i < n by omega) h (fun x hx e => by
        obtain ⟨k, hk⟩ := (ih.seen _ (hp.lt x hx)).1 e
        exact (ih.seen x hx).2 ⟨k + 1, by rw [it_out]; exact hk⟩) (n + 1) 0 (stC xs n i).1 hl (by omega) (fun x hx => by simp) (fun j j' hj => by omega)
      rw [it] at hM hs
      have e1 : (stC xs n (i + 1)).1 = (cycR xs (n + 1) (stC xs n i).1 i 0).1 := rfl
      have e2 : (stC xs n (i + 1)).2 = (stC xs n i).2 ++ [(M : Int)] := by
        have : (stC xs n (i + 1)).2 = if (cycR xs (n + 1) (stC xs n i).1 i 0).2 = 0 then (stC xs n i).2 else (stC xs n i).2 ++ [((cycR xs (n + 1) (stC xs n i).1 i 0).2 : Int)] := rfl
        rw [this, hM, if_neg (by omega)]
      have hor : ∀ x, x < n → ((∃ j, j < M ∧ it (fnL xs) j i = x) ↔ ∃ k, it (fnL xs) k x = i) := fun x hx => by
        constructor
        · rintro ⟨j, hj, rfl⟩
          exact ⟨M - j, by rw [← it_add, show M - j + j = M by omega]; exact hb⟩
        · rintro ⟨k, hk⟩
          have key : ∀ k y, y < n → it (fnL xs) k y = i → ∃ j, j < M ∧ it (fnL xs) j i = y := by
            intro k
            induction k with
            | zero => exact fun y _ e => ⟨0, by omega, e.symm⟩
            | succ k ih2 =>
              intro y hy e
              rw [it_out] at e
              obtain ⟨j, hj, e2⟩ := ih2 _ (hp.lt y hy) e
              rcases Nat.eq_zero_or_pos j with h2 | h2
              · subst h2
                refine ⟨M - 1, by omega, hp.inj _ _ (hp.it (by omega) _) hy ?_⟩
                have : fnL xs (it (fnL xs) (M - 1) i) = it (fnL xs) (M - 1 + 1) i := rfl
                rw [this, show M - 1 + 1 = M by omega, hb]
                exact e2
              · refine ⟨j - 1, by omega, hp.inj _ _ (hp.it (by omega) _) hy ?_⟩
                have : fnL xs (it (fnL xs) (j - 1) i) = it (fnL xs) (j - 1 + 1) i := rfl
                rw [this, show j - 1 + 1 = j by omega]
                exact e2
          exact key k x hx hk
      refine ⟨fun x hx => ?_, ?_, fun x hx e => ?_⟩
      · rw [e1, hs x hx, ih.seen x hx, hor x hx]
        constructor
        · rintro (⟨k, hk⟩ | ⟨k, hk⟩)
          · exact ⟨k, by omega⟩
          · exact ⟨k, by omega⟩
        · rintro ⟨k, hk⟩
          rcases Nat.lt_or_eq_of_le (Nat.le_of_lt_succ hk) with h2 | h2
          · exact .inl ⟨k, h2⟩
          · exact .inr ⟨k, h2⟩
      · rw [e2, List.length_append, ih.many, cn_yes hmn]; rfl
      · rw [e2]
        rw [e1] at e
        rcases (hs x hx).1 e with h2 | ⟨j, _, rfl⟩
        · obtain ⟨L, hL, hL2⟩ := ih.back x hx h2
          exact ⟨L, List.mem_append.2 (.inl hL), hL2⟩
        · exact ⟨M, List.mem_append.2 (.inr (List.mem_singleton.2 rfl)), by rw [it_comm, hb]⟩
    · have hmn : ¬ mn (fnL xs) i := fun h1 => by
        obtain ⟨k, hk⟩ := (ih.seen i (by omega)).1 h
        have := h1 k
        omega
      have e1 : (stC xs n (i + 1)).1 = (stC xs n i).1 := by
        have : (stC xs n (i + 1)).1 = (cycR xs (n + 1) (stC xs n i).1 i 0).1 := rfl
        rw [this, cycR_stop h]
      have e2 : (stC xs n (i + 1)).2 = (stC xs n i).2 := by
        have : (stC xs n (i + 1)).2 = if (cycR xs (n + 1) (stC xs n i).1 i 0).2 = 0 then (stC xs n i).2 else (stC xs n i).2 ++ [((cycR xs (n + 1) (stC xs n i).1 i 0).2 : Int)] := rfl
        rw [this, cycR_stop h, if_pos rfl]
      refine ⟨fun x hx => ?_, ?_, fun x hx e => ?_⟩
      · rw [e1, ih.seen x hx]
        constructor
        · rintro ⟨k, hk⟩
          exact ⟨k, by omega⟩
        · rintro ⟨k, hk⟩
          rcases Nat.lt_or_eq_of_le (Nat.le_of_lt_succ hk) with h2 | h2
          · exact ⟨k, h2⟩
          · obtain ⟨k2, hk2⟩ := (ih.seen i (by omega)).1 h
            exact ⟨k2 + k, by rw [it_add, h2]; exact hk2⟩
      · rw [e2, ih.many, cn_no hmn]
      · rw [e1] at e
        rw [e2]
        exact ih.back x hx e

end Go.Proofs.Ytfncmgaeecjacaa.orb

namespace Go.Proofs.Ytfncmgaeecjacaa.rnk
open Go.RowKit
open base mem deck

theorem fac_pos {i : Nat} (h : i ≤ 20) : 0 < facW i := by
  rcases Nat.lt_or_eq_of_le h with h | h
  · exact (fac_facts i h).1
  · have := (fac_facts 19 (by omega))
    rw [h, this.2.1]
    omega
theorem fac_zero : facW 0 = 1 := rfl
/-- the rank, without wraps -/
def exTo (xs : List Int) : Nat → Int
  | 0 => 0
  | k + 1 => exTo xs k + (lessTo xs k (xs.length - 1 - k) : Nat) * facW (xs.length - 1 - k)
theorem ex_le {xs : List Int} {n : Nat} (hl : xs.length = n) (hn : n ≤ 20) (j : Nat) : ∀ k, j ≤ k → k ≤ n → 0 ≤ exTo xs k - exTo xs j ∧ exTo xs k - exTo xs j ≤ facW (n - j) - facW (n - k) := by
  intro k
  induction k with
  | zero => intro h _; obtain rfl : j = 0 := by omega
            omega
  | succ k ih =>
    intro hj hk
    rcases Nat.lt_or_eq_of_le hj with h | h
    · obtain ⟨a, b⟩ := ih (by omega) (by omega)
      have hf := fac_facts (n - 1 - k) (by omega)
      rw [show n - 1 - k + 1 = n - k by omega] at hf
      rw [exTo, hl, show n - (k + 1) = n - 1 - k by omega]
      have h1 := lessTo_le xs k (n - 1 - k)
      have h2 : ((lessTo xs k (n - 1 - k) : Nat) : Int) * facW (n - 1 - k) ≤ ((n - 1 - k : Nat) : Int) * facW (n - 1 - k) := Int.mul_le_mul_of_nonneg_right (by omega) (by omega)
      have h3 : 0 ≤ ((lessTo xs k (n - 1 - k) : Nat) : Int) * facW (n - 1 - k) := Int.mul_nonneg (by omega) (by omega)
      have h4 := hf.2.1
      rw [Int.add_mul, Int.one_mul] at h4
      omega
    · subst h; omega
theorem rk_ex {xs : List Int} {n : Nat} (hl : xs.length = n) (hn : n ≤ 20) : ∀ k, k ≤ n → rkTo xs k = exTo xs k
  | 0, _ => rfl
  | k + 1, hk => by
    have h1 := ex_le hl hn 0 (k + 1) (by omega) hk
    have h2 := ex_le hl hn 0 k (by omega) (by omega)
    have h3 := ex_le hl hn k (k + 1) (by omega) hk
    have h5 : facW n < 9223372036854775807 := by
      have h6 := fac_facts (n - 1) (by omega)
      rw [show n - 1 + 1 = n by omega] at h6
      exact h6.2.2
    have h4 : 0 < facW (n - (k + 1)) := fac_pos (by omega)
    have e0 : exTo xs 0 = 0 := rfl
    rw [Nat.sub_zero, e0] at h1 h2
    have h7 : 0 < facW (n - k) := fac_pos (by omega)
    have h8 : exTo xs (k + 1) = exTo xs k + (lessTo xs k (n - 1 - k) : Nat) * facW (n - 1 - k) := by rw [exTo, hl]
    rw [rkTo, rk_ex hl hn k (by omega), hl, IntWalk.wrap64_in ((lessTo xs k (n - 1 - k) : Nat) * facW (n - 1 - k)) ⟨by omega, by omega⟩, IntWalk.wrap64_in _ ⟨by omega, by omega⟩, h8]
/-- a list that grows -/
def Up (L : List Int) : Prop := L.Pairwise fun a b => a < b
theorem up_news (n : Nat) : Up (news n) := by
  unfold Up news
  rw [List.pairwise_map]
  exact List.pairwise_lt_range.imp (fun h => by omega)
theorem up_at {L : List Int} {x : Int} (h : Up L) (hx : x ∈ L) : L.getD (L.countP fun y => decide (y < x)) 0 = x := by
  induction L with
  | nil => cases hx
  | cons y t ih =>
    rw [Up, List.pairwise_cons] at h
    by_cases hxy : x = y
    · subst hxy
      have h0 : (x :: t).countP (fun y => decide (y < x)) = 0 := by
        rw [List.countP_eq_zero]
        intro z hz
        rcases List.mem_cons.1 hz with e | e
        · simp [e]
        · have := h.1 z e; simp; omega
      rw [h0]; rfl
    · have ht : x ∈ t := by
        rcases List.mem_cons.1 hx with e | e
        · exact absurd e hxy
        · exact e
      have hy := h.1 x ht
      rw [List.countP_cons_of_pos (by simpa using hy), List.getD_cons_succ]
      exact ih h.2 ht
theorem cut_eq (L : List Int) (c : Nat) : L.take c ++ L.drop (c + 1) = L.eraseIdx c := (List.eraseIdx_eq_take_drop_succ L c).symm
theorem up_cut {L : List Int} (h : Up L) (c : Nat) : Up (L.take c ++ L.drop (c + 1)) := by
  rw [cut_eq]
  exact h.sublist (List.eraseIdx_sublist L c)
theorem up_lt {L : List Int} (h : Up L) {i j : Nat} (hij : i < j) (hj : j < L.length) : L.getD i 0 < L.getD j 0 := by
  have h1 := List.pairwise_iff_getElem.1 h i j (by omega) hj hij
  simpa [List.getD, hj, show i < L.length by omega] using h1
theorem less_cnt {xs : List Int} {n : Nat} (hl : xs.length = n) (j : Nat) (hj : j < n) : ∀ m, m ≤ n - 1 - j → lessTo xs j m = ((xs.drop (j + 1)).take m).countP fun y => decide (y < xs.getD j 0)
  | 0, _ => by simp [lessTo]
  | m + 1, hm => by
    have h1 : m < (xs.drop (j + 1)).length := by rw [List.length_drop, hl]; omega
    have h2 : xs.getD (j + 1 + m) 0 = (xs.drop (j + 1))[m] := by
      rw [List.getElem_drop]; simp [List.getD, show j + 1 + m < xs.length by omega]
    rw [lessTo, less_cnt hl j hj m (by omega), List.take_succ_eq_append_getElem h1, List.countP_append, h2]
    congr 1
    simp [List.countP_cons]
theorem less_all {xs : List Int} {n : Nat} (hl : xs.length = n) {j : Nat} (hj : j < n) : lessTo xs j (n - 1 - j) = (xs.drop j).countP fun y => decide (y < xs.getD j 0) := by
  rw [less_cnt hl j hj _ (Nat.le_refl _), List.take_of_length_le (by rw [List.length_drop, hl]; omega)]
  have h1 : xs.drop j = xs.getD j 0 :: xs.drop (j + 1) := by
    rw [List.drop_eq_getElem_cons (by omega)]
    simp [List.getD, show j < xs.length by omega]
  conv => rhs; rw [h1]
  rw [List.countP_cons_of_neg (by simp)]
theorem at_get (L : List Int) (k : Nat) (h : k < L.length) : L.getD k 0 = L[k] := by simp [List.getD, h]
theorem at_mid (L : List Int) (z : Int) (j : Nat) (h : L.length = j) : (L ++ [z]).getD j 0 = z := by
  subst h; simp [List.getD]
theorem at_pre (L : List Int) (z : Int) (j : Nat) (h : j < L.length) : (L ++ [z]).getD j 0 = L.getD j 0 := by
  simp [List.getD, List.getElem?_append_left h]
theorem erase_perm : ∀ (L : List Int) (c : Nat) (h : c < L.length), (L[c] :: L.eraseIdx c).Perm L
  | [], _, h => by simp at h
  | x :: t, 0, _ => by simp
  | x :: t, c + 1, h => by
    have ih := erase_perm t c (by simpa using h)
    simp only [List.getElem_cons_succ, List.eraseIdx_cons_succ]
    exact (List.Perm.swap _ _ _).trans (ih.cons x)
/-- what the rank of a deck leads back to -/
theorem un_rank {xs : List Int} {n : Nat} (hl : xs.length = n) (hn : n ≤ 20) (hp : xs.Perm (news n)) : ∀ j, j ≤ n →
    Up (urTo n (exTo xs n) j).1 ∧ (urTo n (exTo xs n) j).1.Perm (xs.drop j) ∧ (urTo n (exTo xs n) j).2.1 = xs.take j ∧ (urTo n (exTo xs n) j).2.2 = exTo xs n - exTo xs j
  | 0, _ => ⟨up_news n, by rw [List.drop_zero]; exact hp.symm, rfl, by simp [urTo, exTo]⟩
  | j + 1, hj => by
    obtain ⟨a, b, c, d⟩ := un_rank hl hn hp j (by omega)
    have hF := fac_pos (show n - 1 - j ≤ 20 by omega)
    have hb := ex_le hl hn (j + 1) n (by omega) (Nat.le_refl _)
    rw [Nat.sub_self, fac_zero, show n - (j + 1) = n - 1 - j by omega] at hb
    have he : exTo xs n - exTo xs j = (exTo xs n - exTo xs (j + 1)) + facW (n - 1 - j) * (lessTo xs j (n - 1 - j) : Nat) := by
      rw [exTo, hl, Int.mul_comm (facW _)]; omega
    have hq : (exTo xs n - exTo xs j) / facW (n - 1 - j) = (lessTo xs j (n - 1 - j) : Nat) := by
      rw [he, Int.add_mul_ediv_left _ _ (by omega), Int.ediv_eq_zero_of_lt hb.1 (by omega), Int.zero_add]
    have hr : (exTo xs n - exTo xs j) % facW (n - 1 - j) = exTo xs n - exTo xs (j + 1) := by
      rw [he, Int.add_mul_emod_self_left, Int.emod_eq_of_lt hb.1 (by omega)]
    have hk : lessTo xs j (n - 1 - j) = (urTo n (exTo xs n) j).1.countP fun y => decide (y < xs.getD j 0) := by
      rw [less_all hl (by omega)]
      exact (b.countP_eq _).symm
    have hd : xs.drop j = xs.getD j 0 :: xs.drop (j + 1) := by
      rw [List.drop_eq_getElem_cons (by omega)]
      simp [List.getD, show j < xs.length by omega]
    have hmem : xs.getD j 0 ∈ (urTo n (exTo xs n) j).1 := b.mem_iff.2 (by rw [hd]; exact List.mem_cons_self)
    have hat := up_at a hmem
    rw [urTo_succ, d, hq, hr, c, Int.toNat_natCast, hk, hat]
    refine ⟨up_cut a _, ?_, ?_, rfl⟩
    · have hlt : ((urTo n (exTo xs n) j).1.countP fun y => decide (y < xs.getD j 0)) < (urTo n (exTo xs n) j).1.length := by
        rw [← hk, b.length_eq, List.length_drop, hl]
        have := lessTo_le xs j (n - 1 - j)
        omega
      have h1 := erase_perm (urTo n (exTo xs n) j).1 _ hlt
      have h2 : (urTo n (exTo xs n) j).1[(urTo n (exTo xs n) j).1.countP fun y => decide (y < xs.getD j 0)] = xs.getD j 0 := by
        rw [← at_get _ _ hlt]; exact hat
      rw [h2] at h1
      rw [cut_eq]
      exact (List.perm_cons _).1 (h1.trans (b.trans (by rw [hd])))
    · rw [List.take_succ_eq_append_getElem (by omega)]
      simp [List.getD, show j < xs.length by omega]
theorem rank_lt {xs : List Int} {n : Nat} (hl : xs.length = n) (hn : n ≤ 20) : rankW xs = exTo xs n ∧ 0 ≤ exTo xs n ∧ exTo xs n < facW n := by
  have h1 := ex_le hl hn 0 n (Nat.zero_le _) (Nat.le_refl _)
  rw [Nat.sub_zero, Nat.sub_self, fac_zero] at h1
  have e0 : exTo xs 0 = 0 := rfl
  rw [e0] at h1
  refine ⟨?_, by omega, by omega⟩
  unfold rankW
  rw [hl]
  exact rk_ex hl hn n (Nat.le_refl _)
theorem un_back {xs : List Int} {n : Nat} (hl : xs.length = n) (hn : n ≤ 20) (hp : xs.Perm (news n)) : (urTo n (rankW xs) n).2.1 = xs := by
  rw [(rank_lt hl hn).1, (un_rank hl hn hp n (Nat.le_refl _)).2.2.1, List.take_of_length_le (by omega)]
/-- a list that comes before another one -/
def Bef (xs ys : List Int) : Prop := ∃ i, i < xs.length ∧ i < ys.length ∧ (∀ j, j < i → xs.getD j 0 = ys.getD j 0) ∧ xs.getD i 0 < ys.getD i 0
theorem bef_not {xs ys : List Int} (h : Bef xs ys) (h2 : Bef ys xs) : False := by
  obtain ⟨i, _, _, a, b⟩ := h
  obtain ⟨j, _, _, c, d⟩ := h2
  rcases Nat.lt_trichotomy i j with e | e | e
  · have := c i e; omega
  · subst e; omega
  · have := a j e; omega
theorem bef_irr {xs : List Int} : ¬ Bef xs xs := fun h => bef_not h h
theorem bef_more {xs ys : List Int} (h : Bef xs ys) (x y : Int) : Bef (xs ++ [x]) (ys ++ [y]) := by
  obtain ⟨i, h1, h2, h3, h4⟩ := h
  have key : ∀ (L : List Int) (z : Int) (j : Nat), j < L.length → (L ++ [z]).getD j 0 = L.getD j 0 := fun L z j hj => by simp [List.getD, List.getElem?_append_left hj]
  refine ⟨i, by simp; omega, by simp; omega, fun j hj => ?_, ?_⟩
  · rw [key _ _ _ (by omega), key _ _ _ (by omega)]; exact h3 j hj
  · rw [key _ _ _ h1, key _ _ _ h2]; exact h4
theorem un_mono {n : Nat} {r s : Int} (hn : n ≤ 20) (h0 : 0 ≤ r) (hrs : r < s) (hs : s < facW n) : ∀ j, j ≤ n →
    Bef (urTo n r j).2.1 (urTo n s j).2.1 ∨ ((urTo n r j).1 = (urTo n s j).1 ∧ Up (urTo n r j).1 ∧ (urTo n r j).2.1 = (urTo n s j).2.1 ∧ (urTo n r j).2.2 < (urTo n s j).2.2)
  | 0, _ => .inr ⟨rfl, up_news n, rfl, hrs⟩
  | j + 1, hj => by
    obtain ⟨a1, a2, a3, a4⟩ := urTo_facts n r hn h0 (by omega) j (by omega)
    obtain ⟨b1, b2, b3, b4⟩ := urTo_facts n s hn (by omega) hs j (by omega)
    have hf := fac_facts (n - 1 - j) (by omega)
    rw [show n - j = n - 1 - j + 1 by omega, hf.2.1] at a4 b4
    obtain ⟨q1, q2, q3, q4⟩ := quo_fact hf.1 a3 a4
    obtain ⟨p1, p2, p3, p4⟩ := quo_fact hf.1 b3 b4
    rw [urTo_succ, urTo_succ]
    simp only
    rcases un_mono hn h0 hrs hs j (by omega) with h | ⟨h1, h2, h3, h4⟩
    · exact .inl (bef_more h _ _)
    · rw [← h1, ← h3]
      have hle : (urTo n r j).2.2 / facW (n - 1 - j) ≤ (urTo n s j).2.2 / facW (n - 1 - j) := Int.ediv_le_ediv hf.1 (by omega)
      rcases Int.lt_or_eq_of_le hle with h5 | h5
      · refine .inl ⟨j, by rw [List.length_append, a2]; exact Nat.lt_succ_self j, by rw [List.length_append, a2]; exact Nat.lt_succ_self j, fun i hi => ?_, ?_⟩
        · rw [at_pre _ _ _ (by omega), at_pre _ _ _ (by omega)]
        · have hx : ∀ z : Int, ((urTo n r j).2.1 ++ [z]).getD j 0 = z := fun z => at_mid _ z j a2
          rw [hx, hx]
          exact up_lt h2 (by omega) (by rw [a1]; omega)
      · right
        rw [← h5]
        refine ⟨rfl, up_cut h2 _, rfl, ?_⟩
        have e1 := Int.emod_add_mul_ediv (urTo n r j).2.2 (facW (n - 1 - j))
        have e2 := Int.emod_add_mul_ediv (urTo n s j).2.2 (facW (n - 1 - j))
        rw [← h5] at e2
        omega
theorem un_bef {n : Nat} {r s : Int} (hn : n ≤ 20) (h0 : 0 ≤ r) (hrs : r < s) (hs : s < facW n) : Bef (urTo n r n).2.1 (urTo n s n).2.1 := by
  rcases un_mono hn h0 hrs hs n (Nat.le_refl _) with h | ⟨_, _, _, h⟩
  · exact h
  · obtain ⟨_, _, a3, _⟩ := urTo_facts n r hn h0 (by omega) n (Nat.le_refl _)
    obtain ⟨_, _, _, b4⟩ := urTo_facts n s hn (by omega) hs n (Nat.le_refl _)
    rw [Nat.sub_self, fac_zero] at b4
    omega
theorem rank_bef {xs ys : List Int} {n : Nat} (hl : xs.length = n) (hl2 : ys.length = n) (hn : n ≤ 20) (hp : xs.Perm (news n)) (hp2 : ys.Perm (news n)) : rankW xs < rankW ys ↔ Bef xs ys := by
  obtain ⟨a1, a2, a3⟩ := rank_lt hl hn
  obtain ⟨b1, b2, b3⟩ := rank_lt hl2 hn
  have ha := un_back hl hn hp
  have hb := un_back hl2 hn hp2
  constructor
  · intro h
    have := un_bef hn (by omega) h (by omega)
    rw [ha, hb] at this
    exact this
  · intro h
    rcases Int.lt_trichotomy (rankW xs) (rankW ys) with e | e | e
    · exact e
    · rw [e, hb] at ha; rw [ha] at h; exact absurd h bef_irr
    · have := un_bef hn (by omega) e (by omega)
      rw [ha, hb] at this
      exact absurd this (fun h2 => bef_not h h2)
theorem rank_prev {xs : List Int} {n : Nat} (hl : xs.length = n) (hn : n ≤ 20) (hp : xs.Perm (news n)) (h : 0 < rankW xs) : Bef (urTo n (rankW xs - 1) n).2.1 xs := by
  obtain ⟨a1, a2, a3⟩ := rank_lt hl hn
  have := un_bef hn (show 0 ≤ rankW xs - 1 by omega) (show rankW xs - 1 < rankW xs by omega) (by omega)
  rw [un_back hl hn hp] at this
  exact this

end Go.Proofs.Ytfncmgaeecjacaa.rnk

namespace Go.Proofs.Ytfncmgaeecjacaa.orb
open Go.RowKit
open base mem deck rnk

theorem fn_at {xs : List Int} (h : ordB xs = true) {x : Nat} (hx : x < xs.length) : xs.getD x 0 = (fnL xs x : Int) ∧ fnL xs x < xs.length := by
  obtain ⟨j, h1, h2⟩ := deck_card h hx
  unfold fnL
  rw [h1]
  exact ⟨by omega, by omega⟩
theorem fn_pf {xs : List Int} (h : ordB xs = true) : PF xs.length (fnL xs) where
  lt x hx := (fn_at h hx).2
  inj x y hx hy e := ord_inj h hx hy (by rw [(fn_at h hx).1, (fn_at h hy).1, e])
theorem PF.surj : ∀ {n : Nat} {f : Nat → Nat}, PF n f → ∀ v, v < n → ∃ x, x < n ∧ f x = v
  | 0, _, _, v, h => by omega
  | n + 1, f, hp, v, hv => by
    by_cases h1 : f n = v
    · exact ⟨n, by omega, h1⟩
    · have key : ∀ u, u < n → f n ≠ u → ∃ x, x < n + 1 ∧ f x = u := fun u hu hn => by
        obtain ⟨x, hx, e⟩ := PF.surj hp.del u hu
        refine ⟨x, by omega, ?_⟩
        by_cases h2 : f x = n
        · rw [dl_yes h2] at e; exact absurd e hn
        · rw [dl_no h2] at e; exact e
      rcases Nat.lt_or_eq_of_le (Nat.le_of_lt_succ hv) with h2 | h2
      · exact key v h2 h1
      · subst h2
        obtain ⟨x, hx, e⟩ := PF.surj hp.del (f v) (hp.top h1)
        by_cases h3 : f x = v
        · exact ⟨x, by omega, h3⟩
        · rw [dl_no h3] at e
          have := hp.inj x v (by omega) (by omega) e
          omega
theorem ord_of {xs : List Int} (hr : ∀ i, i < xs.length → ∃ v : Nat, xs.getD i 0 = v ∧ v < xs.length) (hi : ∀ i j, i < xs.length → j < xs.length → xs.getD i 0 = xs.getD j 0 → i = j) : ordB xs = true := by
  rw [ord_iff]
  refine ⟨?_, fun x hx => ?_⟩
  · rw [List.nodup_iff_pairwise_ne, List.pairwise_iff_getElem]
    intro i j hi' hj' hij he
    have := hi i j hi' hj' (by rw [deck.getD_eq hi', deck.getD_eq hj', he])
    omega
  · obtain ⟨k, hk, rfl⟩ := List.mem_iff_getElem.1 hx
    obtain ⟨v, h1, h2⟩ := hr k hk
    rw [deck.getD_eq hk] at h1
    omega
theorem ord_surj {xs : List Int} (h : ordB xs = true) {v : Nat} (hv : v < xs.length) : ∃ j, j < xs.length ∧ xs.getD j 0 = (v : Int) := by
  obtain ⟨j, hj, e⟩ := (fn_pf h).surj v hv
  exact ⟨j, hj, by rw [(fn_at h hj).1, e]⟩
theorem ord_news {xs : List Int} (h : ordB xs = true) : xs.Perm (news xs.length) := by
  have h1 := (ord_iff xs).1 h
  have h2 := (ord_iff _).1 (news_ord xs.length)
  rw [List.perm_ext_iff_of_nodup h1.1 h2.1]
  intro x
  constructor
  · intro hx
    have := h1.2 x hx
    exact List.mem_map.2 ⟨x.toNat, List.mem_range.2 (by omega), by omega⟩
  · intro hx
    obtain ⟨v, hv, rfl⟩ := List.mem_map.1 hx
    obtain ⟨j, hj, e⟩ := ord_surj h (List.mem_range.1 hv)
    rw [← e, deck.getD_eq hj]
    exact List.getElem_mem hj
/-! ### cycles -/
theorem cyc_len {xs : List Int} (h : ordB xs = true) : (cycL xs).length = cn (fnL xs) xs.length := by
  unfold cycL
  rw [srt_len]
  exact (ci_all (fn_pf h) _ (Nat.le_refl _)).many
theorem cyc_tot {xs : List Int} (h : ordB xs = true) : tot (cycL xs) = xs.length := by
  have hci := ci_all (fn_pf h) _ (Nat.le_refl _)
  have h1 := stC_tot xs xs.length xs.length (Nat.le_refl _) (fun j hj => (fn_at h hj).2)
  have h2 : (stC xs xs.length xs.length).1.count false = 0 := by
    rw [List.count_eq_zero]
    intro hm
    obtain ⟨i, hi, e⟩ := List.getElem_of_mem hm
    have hi2 := hi
    rw [stC_len1] at hi2
    have h3 := (hci.seen i hi2).2 ⟨0, hi2⟩
    simp [List.getD, hi, e] at h3
  have h3 : tot (cycL xs) = tot (stC xs xs.length xs.length).2 := ((srt_perm _).map Int.toNat).sum_nat
  omega
theorem cyc_up {xs : List Int} {k : Nat} (h : k + 1 < (cycL xs).length) : (cycL xs).getD k 0 ≤ (cycL xs).getD (k + 1) 0 := by
  have h1 := List.pairwise_iff_getElem.1 (srt_sorted (stC xs xs.length xs.length).2) k (k + 1) (by unfold cycL at h; omega) h (Nat.lt_succ_self k)
  rw [deck.getD_eq h, deck.getD_eq (show k < (cycL xs).length by omega)]
  exact h1
theorem ord_dvd (L : List Int) : ∀ k j, j < k → (L.getD j 0).toNat ∣ ordTo L k
  | 0, j, h => by omega
  | k + 1, j, h => by
    rw [ordTo]
    rcases Nat.lt_or_eq_of_le (Nat.le_of_lt_succ h) with h1 | h1
    · refine Nat.dvd_trans (ord_dvd L k j h1) ?_
      rw [Nat.div_mul_right_comm (Nat.gcd_dvd_left _ _), Nat.mul_div_assoc _ (Nat.gcd_dvd_right _ _)]
      exact Nat.dvd_mul_right _ _
    · rw [h1]; exact Nat.dvd_mul_left _ _
theorem it_order {xs : List Int} (h : ordB xs = true) {x : Nat} (hx : x < xs.length) : it (fnL xs) (ordTo (cycL xs) (cycL xs).length) x = x := by
  have hci := ci_all (fn_pf h) _ (Nat.le_refl _)
  obtain ⟨L, hL, e⟩ := hci.back x hx ((hci.seen x hx).2 ⟨0, hx⟩)
  have hm : (L : Int) ∈ cycL xs := (srt_perm _).mem_iff.2 hL
  obtain ⟨j, hj, e2⟩ := List.getElem_of_mem hm
  have h1 := ord_dvd (cycL xs) _ j hj
  rw [deck.getD_eq hj, e2, Int.toNat_natCast] at h1
  obtain ⟨q, hq⟩ := h1
  rw [hq, Nat.mul_comm]
  exact it_mul e q
/-! ### signs -/
theorem sgn_eq {xs : List Int} (hd : deckB xs = true) : sgnOut xs = if sg xs.length (fnL xs) then -1 else 1 := by
  obtain ⟨h1, h2⟩ := sg_cn xs.length (fnL xs) (fn_pf (deck_ord hd))
  unfold sgnOut sgnN
  rw [if_pos hd, cyc_len (deck_ord hd), h2]
  rcases Nat.mod_two_eq_zero_or_one (xs.length - cn (fnL xs) xs.length) with h3 | h3
  · simp [h3]
  · simp [h3]
theorem join_at {xs ys : List Int} {i : Nat} : ∀ {k : Nat}, i < k → (joinTo xs ys k).getD i 0 = xs.getD (ys.getD i 0).toNat 0
  | 0, h => by omega
  | k + 1, h => by
    have hl := joinTo_len xs ys k
    rw [joinTo]
    rcases Nat.lt_or_eq_of_le (Nat.le_of_lt_succ h) with h1 | h1
    · rw [app_at (by omega)]; exact join_at h1
    · rw [app_end (by omega), h1]
section
variable {xs ys : List Int} {n : Nat} (hx : deckB xs = true) (hy : deckB ys = true) (hl : xs.length = n) (hl2 : ys.length = n)
include hx hy hl hl2
theorem join_eq : joinOk xs ys = true ∧ joinOut xs ys = joinTo xs ys n := by
  have h : joinOk xs ys = true := by unfold joinOk; rw [hx, hy, hl, hl2]; simp
  exact ⟨h, by unfold joinOut; rw [if_pos h, hl2]⟩
omit hx hy hl hl2 in
theorem fn_join {x : Nat} (h : x < n) : fnL (joinTo xs ys n) x = fnL xs (fnL ys x) := by
  unfold fnL
  rw [join_at h]
theorem join_deck : deckB (joinTo xs ys n) = true := by
  have hj := joinTo_len xs ys n
  rw [deck_mk (by rw [hj, ← hl]; exact deck_len hx)]
  have hfx := fn_pf (deck_ord hx)
  have hfy := fn_pf (deck_ord hy)
  rw [hl] at hfx
  rw [hl2] at hfy
  have key : ∀ i, i < n → (joinTo xs ys n).getD i 0 = (fnL xs (fnL ys i) : Int) := fun i hi => by
    have h1 := fn_at (deck_ord hx) (show fnL ys i < xs.length by rw [hl]; exact hfy.lt i hi)
    rw [join_at hi, ← h1.1]
    rfl
  refine ord_of (fun i hi => ?_) (fun i j hi hj' e => ?_)
  · rw [hj] at hi ⊢
    exact ⟨_, key i hi, hfx.lt _ (hfy.lt i hi)⟩
  · rw [hj] at hi hj'
    rw [key i hi, key j hj'] at e
    exact (hfx.comp hfy).inj i j hi hj' (by omega)
theorem sgn_join : sgnOut (joinTo xs ys n) = sgnOut xs * sgnOut ys ∧ (sgnOut xs = 1 ∨ sgnOut xs = -1) ∧ (sgnOut ys = 1 ∨ sgnOut ys = -1) := by
  rw [sgn_eq hx, sgn_eq hy, sgn_eq (join_deck hx hy hl hl2), joinTo_len, hl, hl2]
  have h1 := fn_pf (deck_ord hx)
  have h2 := fn_pf (deck_ord hy)
  rw [hl] at h1
  rw [hl2] at h2
  have h3 := sg_mul h2 n (fnL xs) h1 (fun x h4 h5 => by omega)
  rw [sg_congr n (fnL (joinTo xs ys n)) (fun x => fnL xs (fnL ys x)) (fun x h => fn_join h), h3]
  cases sg n (fnL xs) <;> cases sg n (fnL ys) <;> simp
end
/-! ### what leads back -/
section
variable {xs : List Int} {n : Nat} (hx : deckB xs = true) (hl : xs.length = n)
include hx hl
theorem pl_key {j : Nat} (hj : j < n) : (places xs).getD (fnL xs j) 0 = (j : Int) := places_at (deck_ord hx) (by omega) (fn_at (deck_ord hx) (by omega)).1
theorem pl_val {v : Nat} (hv : v < n) : ∃ j, j < n ∧ fnL xs j = v ∧ (places xs).getD v 0 = (j : Int) := by
  obtain ⟨j, hj, e⟩ := (fn_pf (deck_ord hx)).surj v (by omega)
  refine ⟨j, by omega, e, ?_⟩
  have h := pl_key hx hl (show j < n by omega)
  rw [e] at h
  exact h
theorem pl_deck : deckB (places xs) = true := by
  have hj : (places xs).length = n := by rw [places_len, hl]
  rw [deck_mk (by rw [hj, ← hl]; exact deck_len hx)]
  refine ord_of (fun i hi => ?_) (fun i j hi hj' e => ?_)
  · rw [hj] at hi ⊢
    obtain ⟨j, h1, _, h3⟩ := pl_val hx hl hi
    exact ⟨j, h3, h1⟩
  · rw [hj] at hi hj'
    obtain ⟨a, _, h2, h3⟩ := pl_val hx hl hi
    obtain ⟨b, _, h5, h6⟩ := pl_val hx hl hj'
    rw [h3, h6] at e
    obtain rfl : a = b := by omega
    omega
theorem pl_same {v : Nat} (hv : v < n) : (joinTo xs (places xs) n).getD v 0 = (v : Int) := by
  obtain ⟨j, h1, h2, h3⟩ := pl_val hx hl hv
  rw [join_at hv, h3, Int.toNat_natCast, (fn_at (deck_ord hx) (by omega)).1, h2]
theorem pl_pl : places (places xs) = xs := by
  have hj : (places xs).length = n := by rw [places_len, hl]
  refine ext_at (by rw [places_len, places_len]) fun i hi => ?_
  rw [places_len, hj] at hi
  obtain ⟨h1, h2⟩ := fn_at (deck_ord hx) (show i < xs.length by omega)
  rw [h1]
  exact places_at (deck_ord (pl_deck hx hl)) (by omega) (pl_key hx hl hi)
theorem runs_back : runsOut (places xs) = (descOut xs : Int) + 1 := by
  unfold runsOut descOut
  rw [if_pos (pl_deck hx hl), pl_pl hx hl, if_pos hx]
end

end Go.Proofs.Ytfncmgaeecjacaa.orb
